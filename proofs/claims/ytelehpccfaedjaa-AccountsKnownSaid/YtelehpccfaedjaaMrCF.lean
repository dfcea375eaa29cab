/- Texts joined: AccX, AccY. No conditions. -/
import Derived.Test.YtelehpccfaedjaaMrCE
import Derived.Test.YtelehpccfaedjaaMrD
/- The program's used, Room. No conditions. -/
set_option linter.unusedSimpArgs false
set_option linter.unusedVariables false
namespace Go.Proofs.Ytelehpccfaedjaa
open Go Go.Proofs Go.Abs

def budC (b : Bg) : List AV := [.int .i64 b.no, .int .i64 b.at_, .int .i64 b.known, .int .i64 b.kind, .int .i64 b.period, .int .i64 b.count, .int .i64 b.value, .bool b.gone]
def usedV (b : Bg) (u : List Us) (at_ known : Int) : AV := .func 89 [] [.eptr [.sl (encUs u) .free], .eptr [.int .i64 known], .eptr (budC b), .eptr [.int .i64 at_]]
set_option maxRecDepth 100000 in
theorem used_calls (Γ : Nat → Option (List AV)) (b : Bg) (u : List Us) (at_ known : Int) (h : AH) :
    ACalls Try.prog Γ 57 [encB b, .sl (encUs u) .free, .int .i64 at_, .int .i64 known] h fun v h' => h' = h ∧ v = usedV b u at_ known := by
  rw [usedV, encB, budC]
  refine ACalls.dropL ?_
  refine ACalls.freeze ?_
  refine ACalls.freeze ?_
  refine ACalls.freeze ?_
  refine ACalls.freeze ?_
  refine acalls_code (rs := [.tmp 8]) Try.func57 rfl rfl rfl rfl Ty.mixed (by kernel_rfl) ?_
  simp (disch := omega) only [go_sem, seval]
  have e1 : ∀ a b c d : AObj, (h ++ [a, b, c, d])[h.length]? = some a := fun a b c d => by simp
  have s0 : ∀ a b c d x : AObj, (h ++ [a, b, c, d]).set h.length x = h ++ [x, b, c, d] := fun a b c d x => by simp [hset_zero]
  have s1 : ∀ a b c d x : AObj, (h ++ [a, b, c, d]).set (h.length + 1) x = h ++ [a, x, c, d] := fun a b c d x => by simp [hset_add]
  have s2 : ∀ a b c d x : AObj, (h ++ [a, b, c, d]).set (h.length + 2) x = h ++ [a, b, x, d] := fun a b c d x => by simp [hset_add]
  have s3 : ∀ a b c d x : AObj, (h ++ [a, b, c, d]).set (h.length + 3) x = h ++ [a, b, c, x] := fun a b c d x => by simp [hset_add]
  have g1 : ∀ a b c d : AObj, (h ++ [a, b, c, d])[h.length + 1]? = some b := fun a b c d => by simp
  have g2 : ∀ a b c d : AObj, (h ++ [a, b, c, d])[h.length + 2]? = some c := fun a b c d => by simp
  have g3 : ∀ a b c d : AObj, (h ++ [a, b, c, d])[h.length + 3]? = some d := fun a b c d => by simp
  refine ⟨h.length, _, _, _, e1 _ _ _ _, Froze.set (e1 _ _ _ _), ?_⟩
  rw [s0]
  refine ⟨h.length + 1, _, _, _, g1 _ _ _ _, Froze.set (g1 _ _ _ _), ?_⟩
  rw [s1]
  refine ⟨h.length + 2, _, _, _, g2 _ _ _ _, Froze.set (g2 _ _ _ _), ?_⟩
  rw [s2]
  refine ⟨h.length + 3, _, _, _, g3 _ _ _ _, Froze.set (g3 _ _ _ _), ?_⟩
  rw [s3]
  refine ⟨⟨_, rfl⟩, ?_, ?_⟩
  · simp [fzV, fzL, loose, looseL, loose_Us]
    refine .func (RBs.nil _) (RBs.cons (.eptr ?_) (RBs.cons (.eptr ?_) (RBs.cons (.eptr ?_) (RBs.cons (.eptr ?_) (RBs.nil _)))))
    all_goals
      show RBs _ _
      simp (disch := omega) only [go_sem, seval]
  · simp [fzV, fzL, loose, looseL, loose_Us]
/-- The end of a round, its code not reckoned at once. -/
def roundW (kp : List Nat) (st : Tm) (I : AH → Prop) (Q : Exit → Tm → AH → Prop) : Exit → Tm → AH → Prop
  | .normal, σ, h => I h ∧ keep kp σ = st
  | e, σ, h => Q e σ h
section
variable {kp : List Nat} {st : Tm} {I : AH → Prop} {Q : Exit → Tm → AH → Prop} {σ : Tm} {h : AH}
@[go_sem] theorem roundW_normal : roundW kp st I Q .normal σ h = (I h ∧ keep kp σ = st) := (rfl)
@[go_sem] theorem roundW_ret : roundW kp st I Q .ret σ h = Q .ret σ h := (rfl)
@[go_sem] theorem roundW_exit (i : Nat) : roundW kp st I Q (.exit i) σ h = Q (.exit i) σ h := (rfl)
end
/-- A loop whose rounds are no code that is reckoned at once. -/
theorem awp_loopW {P : Program} {Γ : Nat → Option (List AV)} {N : Nat} {σ : Tm} {h : AH} {Q : Exit → Tm → AH → Prop} {α : Type} {c : Code} (xs : List α) (L : List Nat) (st : List α → Tm) (inv : List α → List α → AH → Prop) (h1 : keep L σ = st []) (h3 : inv [] xs h)
    (H1 : ∀ don x r h, xs = don ++ x :: r → inv don (x :: r) h → AWP P Γ N c (roundW L (st (don ++ [x])) (inv (don ++ [x]) r) Q) (st don) h)
    (H0 : ∀ h, inv xs [] h → AWP P Γ N c (roundZ Q) (st xs) h) : AWP P Γ N (.loop c) Q σ h := by
  refine awp_loop (fun n σ h => ∃ don rest, n = rest.length ∧ xs = don ++ rest ∧ inv don rest h ∧ keep L σ = st don) ⟨[], xs, rfl, rfl, h3, h1⟩ fun n σ h hx => ?_
  obtain ⟨don, rest, rfl, hxs, hi, hs⟩ := hx
  refine AWP.keep L ?_
  rw [hs]
  cases rest with
  | nil =>
    rw [List.append_nil] at hxs
    subst hxs
    refine (H0 h hi).mono fun e σ h he => ?_
    cases e with
    | normal => exact he.elim
    | _ => exact he
  | cons x r =>
    refine (H1 don x r h hxs hi).mono fun e σ h he => ?_
    cases e with
    | normal => exact ⟨r.length, by simp, don ++ [x], r, rfl, by simp [hxs], he.1, he.2⟩
    | _ => exact he
def gotN (kp : List Nat) (G : Tm → AH → Prop) : Exit → Tm → AH → Prop
  | .normal, σ, h => G (keep kp σ) h
  | _, _, _ => False
section
variable {kp : List Nat} {G : Tm → AH → Prop} {σ : Tm} {h : AH}
@[go_sem] theorem gotN_normal : gotN kp G .normal σ h = G (keep kp σ) h := (rfl)
end
theorem awp_got {P : Program} {Γ : Nat → Option (List AV)} {N : Nat} {σ : Tm} {h : AH} {Q : Exit → Tm → AH → Prop} {c d : Code} (kp : List Nat) (G : Tm → AH → Prop) (H : AWP P Γ N c (gotN kp G) σ h) (T : ∀ σ h, G σ h → AWP P Γ N d Q σ h) : AWP P Γ N (.seq c d) Q σ h :=
  awp_seq (H.mono fun e σ h he => by
    cases e with
    | normal => exact AWP.keep kp (T _ _ he)
    | _ => exact he.elim)
set_option maxHeartbeats 4000000 in
set_option maxRecDepth 100000 in
theorem used1_calls (Γ : Nat → Option (List AV)) (L : Nat) (b : Bg) (u : List Us) (at_ known : Int) (hb : rightB b = true) (hu : ∀ x ∈ u, rightU x = true) (hl : u.length ≤ 1000000) (ha : timeF at_ = true) :
    YieldsU Γ L 89 [.eptr [.sl (encUs u) .free], .eptr [.int .i64 known], .eptr (budC b), .eptr [.int .i64 at_]] (fun x => .int .i64 x.value) (u.filter (inP b known (at_ / b.period))) := by
  intro hp n0 hn HY
  have hpd := rightB_period hb
  have hat := timeF_facts ha
  obtain ⟨q1, q2, q3⟩ := div_facts hat.1 hpd.1
  obtain ⟨P, hP⟩ : ∃ P, P = inP b known (at_ / b.period) := ⟨_, rfl⟩
  rw [← hP] at HY ⊢
  rw [budC]
  refine acalls_code (rs := []) Try.func89 rfl rfl rfl rfl Ty.mixed (by kernel_rfl) ?_
  simp (disch := omega) only [go_sem, seval]
  refine awp_loopW u [0, 2, 3, 4, 8, 9, 10] (fun don => [(0, .yield L), (2, .eptr [.int .i64 known]), (3, .eptr (budC b)), (4, .eptr [.int .i64 at_]), (8, .sl (encUs u) .free), (9, .int .i64 u.length), (10, .int .i64 don.length)])
    (fun don _ hx => ∃ jj, hx = hp (don.filter P) ++ jj) ?_ ⟨[], by simp⟩ ?_ ?_
  · simp (disch := omega) only [go_sem, seval, encUs_len, budC]
  · rintro don x r hx0 hd ⟨jj, rfl⟩
    have hlen : u.length = don.length + 1 + r.length := by rw [hd]; simp; omega
    have e1 : (encUs u)[don.length]? = some (encU x) := by rw [hd]; exact encUs_get don r x
    have hx := rightU_facts (hu x (by rw [hd]; simp))
    obtain ⟨r1, r2, r3⟩ := div_facts (p := b.period) (show 0 ≤ x.at_ by omega) hpd.1
    have hPx : P x = ((decide (x.known ≤ known) && (decide (b.kind = -1) || decide (b.kind = x.kind))) && decide (x.at_ / b.period = at_ / b.period)) := by rw [hP]; rfl
    have hnx : P x = false → (don ++ [x]).filter P = don.filter P := fun e => by
      rw [List.filter_append, List.filter_cons_of_neg (by rw [e]; simp), List.filter_nil, List.append_nil]
    have hys : P x = true → (don ++ [x]).filter P = don.filter P ++ [x] := fun e => by
      rw [List.filter_append, List.filter_cons_of_pos e, List.filter_nil]
    have hY := fun (e : P x = true) jj => HY (don.filter P) x jj (by obtain ⟨r', e'⟩ := filter_split P don r x e; exact ⟨r', by rw [hd, e']⟩)
    have k1 : ∀ (D : List Us) (R : AH), (hp D ++ (jj ++ R))[n0 + jj.length]? = R[0]? := fun D R => by rw [← hn D, hget_add, hget_zero]
    have k2 : ∀ (D : List Us) (R : AH) (o : AObj), (hp D ++ (jj ++ R)).set (n0 + jj.length) o = hp D ++ (jj ++ R.set 0 o) := fun D R o => by rw [← hn D, hset_add, hset_zero]
    simp only [encU] at e1 hY
    refine awp_seq (aCode_ok Ty.mixed _ _ _ _ (by kernel_rfl) ?_)
    simp (disch := omega) only [go_sem, seval]
    refine awp_seq (aCode_ok Ty.mixed _ _ _ _ (by kernel_rfl) ?_)
    simp (disch := omega) only [go_sem, seval]
    refine aIf.pos (by omega) ?_
    simp (disch := omega) only [go_sem, seval]
    refine awp_seq (awp_block (awp_seq (aCode_ok Ty.mixed _ _ _ _ (by kernel_rfl) ?_)))
    simp (disch := omega) only [go_sem, seval, e1, hn, k1, k2, List.length_append, budC]
    refine awp_got [0, 2, 3, 4, 8, 9, 10, 48] (fun σ hy => σ = [(0, .yield L), (2, .eptr [.int .i64 known]), (3, .eptr (budC b)), (4, .eptr [.int .i64 at_]), (8, .sl (encUs u) .free), (9, .int .i64 u.length), (10, .int .i64 don.length), (48, .bool false)] ∧ ∃ jj', hy = hp ((don ++ [x]).filter P) ++ jj') (awp_drawB (c := 32) Ty.mixed (by kernel_rfl) (by kernel_rfl) rfl (by kernel_rfl) ?_ ?_) ?_
    · unfold seps
      simp (disch := omega) only [go_sem, seval]
    · simp only [List.take_succ_cons, List.take_zero, List.drop_succ_cons, List.drop_zero]
      simp (disch := omega) only [go_sem, seval, budC, k1, k2, hn]
      refine aIf.intro (fun h1 => ?_) (fun h1 => ?_) <;> simp (disch := omega) only [go_sem, seval, k1, k2, hn, budC]
      rotate_left
      · rw [hnx (by rw [hPx, decide_eq_false h1]; rfl)]; exact ⟨_, rfl⟩
      refine aIf.intro (fun h2 => ?_) (fun h2 => ?_) <;> simp (disch := omega) only [go_sem, seval, k1, k2, hn, budC]
      · skip
        refine ⟨by omega, by omega, ?_⟩
        rw [r1, q1]
        refine aIf.intro (fun h3 => ?_) (fun h3 => ?_) <;> simp (disch := omega) only [go_sem, seval, k1, k2, hn, budC]
        · refine AYield.mono (hY (by rw [hPx, decide_eq_true h1, decide_eq_true h2, decide_eq_true h3]; simp) _) ?_
          rintro _ _ ⟨rfl, jj', rfl⟩
          simp (disch := omega) only [go_sem, seval, budC]
          rw [hys (by rw [hPx, decide_eq_true h1, decide_eq_true h2, decide_eq_true h3]; simp)]
          exact ⟨_, rfl⟩
        · rw [hnx (by rw [hPx, decide_eq_false h3]; simp)]; exact ⟨_, rfl⟩
      refine aIf.intro (fun h4 => ?_) (fun h4 => ?_) <;> simp (disch := omega) only [go_sem, seval, k1, k2, hn, budC]
      · skip
        refine ⟨by omega, by omega, ?_⟩
        rw [r1, q1]
        refine aIf.intro (fun h3 => ?_) (fun h3 => ?_) <;> simp (disch := omega) only [go_sem, seval, k1, k2, hn, budC]
        · refine AYield.mono (hY (by rw [hPx, decide_eq_true h1, decide_eq_true h4, decide_eq_true h3]; simp) _) ?_
          rintro _ _ ⟨rfl, jj', rfl⟩
          simp (disch := omega) only [go_sem, seval, budC]
          rw [hys (by rw [hPx, decide_eq_true h1, decide_eq_true h4, decide_eq_true h3]; simp)]
          exact ⟨_, rfl⟩
        · rw [hnx (by rw [hPx, decide_eq_false h3]; simp)]; exact ⟨_, rfl⟩
      · rw [hnx (by rw [hPx, decide_eq_false h4, decide_eq_false h2]; simp)]; exact ⟨_, rfl⟩
    · rintro _ _ ⟨rfl, jj', rfl⟩
      refine aCode_ok Ty.mixed _ _ _ _ (by kernel_rfl) ?_
      simp (disch := omega) only [go_sem, seval]
      refine aCode_ok Ty.mixed _ _ _ _ (by kernel_rfl) ?_
      simp (disch := omega) only [go_sem, seval, List.length_append, budC]
  · rintro hx ⟨jj, rfl⟩
    refine awp_seq (aCode_ok Ty.mixed _ _ _ _ (by kernel_rfl) ?_)
    simp (disch := omega) only [go_sem, seval]
    refine awp_seq (aCode_ok Ty.mixed _ _ _ _ (by kernel_rfl) ?_)
    simp (disch := omega) only [go_sem, seval]
def tight (u : List Us) (v at_ known : Int) (b : Bg) : Bool := decide (b.count < 1 + (usedF b u at_ known).1) || decide (b.value < v + (usedF b u at_ known).2)
def roomF (l : List Bg) (u : List Us) (k v at_ known : Int) : Option Bg := (standF l k at_ known).find? (tight u v at_ known)
def roomV (o : Option Bg) : AV := match o with
  | some b => .tuple [.int .i64 b.no, .bool false, .int .i64 0]
  | none => .tuple [.int .i64 (-1), .bool true, .int .i64 0]
def allU (_ : Us) : Bool := true
theorem usedF_in (b : Bg) (u : List Us) (t n : Int) : usedF b u t n = sumP allU (u.filter (inP b n (t / b.period))) := by
  rw [usedF, sumP_filter]
  exact sumP_congr fun x _ => by rw [allU, Bool.true_and]
set_option maxHeartbeats 4000000 in
set_option maxRecDepth 100000 in
theorem room_calls (Γ : Nat → Option (List AV)) (l : List Bg) (u : List Us) (k v at_ known : Int) (h : AH) (he : errA l u = 0) (hk : inR k 0 15 = true) (hv : inR v 0 1099511627776 = true) (ha : timeF at_ = true) (hn : timeF known = true) :
    ACalls Try.prog Γ 26 [.sl (encBs l) .free, .sl (encUs u) .free, .int .i64 k, .int .i64 v, .int .i64 at_, .int .i64 known] h fun r h' => h' = h ∧ r = roomV (roomF l u k v at_ known) := by
  obtain ⟨k1, k2, k3, k4, k5, k6, k7⟩ := err0 he
  have c1 := fun h => pcheck_calls Γ l h (by omega)
  have c2 := fun h => puses_calls Γ u h (by omega)
  have c3 := fun o h => between1 Γ 0 15 k o h
  have c4 := fun o h => between1 Γ 0 1099511627776 v o h
  have c5 := fun o h => between2 Γ 0 1099511627775 at_ known o h
  have hat : (inR at_ 0 1099511627775 && inR known 0 1099511627775) = true := by
    rw [show (1099511627775 : Int) = END - 1 from rfl, timeF_in, timeF_in, ha, hn]; rfl
  have c6 := fun h => pstanding_calls Γ l k at_ known h (by omega) k4 k5
  rw [k1] at c1
  rw [k6] at c2
  rw [hk] at c3
  rw [hat] at c5
  have hvb : 0 ≤ v ∧ v ≤ 1099511627776 := by simpa [inR] using hv
  rw [hv] at c4
  rw [roomF]
  have hst : ∀ y ∈ standF l k at_ known, y ∈ l := fun y hy => (mem_standF.1 hy).1
  have hsl : (standF l k at_ known).length ≤ l.length := List.length_filter_le _ _
  generalize standF l k at_ known = st at *
  refine ACalls.drop ?_
  refine acalls_code (rs := [.tmp 12, .tmp 13, .tmp 14]) Try.func26 rfl rfl rfl rfl Ty.mixed (by kernel_rfl) ?_
  simp (disch := omega) only [go_sem, seval]
  refine ACalls.det (c1 _) ?_
  simp (disch := omega) only [go_sem, seval, encUs_len]
  refine aIf.neg (by omega) ?_
  simp (disch := omega) only [go_sem, seval]
  refine ACalls.det (c2 _) ?_
  simp (disch := omega) only [go_sem, seval]
  refine ACalls.det (c3 _ _) ?_
  simp (disch := omega) only [go_sem, seval]
  refine ACalls.det (c4 _ _) ?_
  simp (disch := omega) only [go_sem, seval]
  refine ACalls.det (c5 _ _) ?_
  simp (disch := omega) only [go_sem, seval]
  refine ACalls.det (c6 _) ?_
  simp (disch := omega) only [go_sem, seval, encBs_len]
  refine awp_loopL (β := AH) st [1, 3, 4, 5, 53, 54, 55] (fun don _ => [(1, .sl (encUs u) .free), (3, .int .i64 v), (4, .int .i64 at_), (5, .int .i64 known), (53, .sl (encBs st) .free), (54, .int .i64 st.length), (55, .int .i64 don.length)])
    (fun jj => h ++ jj) (fun don _ _ => ∀ y ∈ don, tight u v at_ known y = false) [] ?_ (by simp) (by simp) Ty.mixed (by kernel_rfl) ?_ ?_
  · simp (disch := omega) only [go_sem, seval]
  · rintro don b r jj hd hs
    have hlen : st.length = don.length + 1 + r.length := by rw [hd]; simp; omega
    have e1 : (encBs st)[don.length]? = some (encB b) := by rw [hd]; exact encBs_get don r b
    have hbl := hst b (by rw [hd]; simp)
    have c7 := fun h => used_calls Γ b u at_ known h
    have c8 := fun L => used1_calls Γ L b u at_ known (k4 b hbl) k7 (by omega) ha
    have hT : tight u v at_ known b = (decide (b.count < 1 + (usedF b u at_ known).1) || decide (b.value < v + (usedF b u at_ known).2)) := rfl
    rw [usedF_in] at hT
    rw [usedV] at c7
    obtain ⟨us, hus⟩ : ∃ us, us = u.filter (inP b known (at_ / b.period)) := ⟨_, rfl⟩
    have husm : ∀ x ∈ us, rightU x = true := fun x hx => k7 x (List.mem_filter.1 (by rw [← hus]; exact hx)).1
    have husl : us.length ≤ u.length := by rw [hus]; exact List.length_filter_le _ _
    rw [← hus] at c8 hT
    have q1 : ∀ (R : AH), (h ++ (jj ++ R))[h.length + jj.length]? = R[0]? := fun R => by rw [hget_add, hget_zero]
    have q2 : ∀ (R : AH) (o : AObj), (h ++ (jj ++ R)).set (h.length + jj.length) o = h ++ (jj ++ R.set 0 o) := fun R o => by rw [hset_add, hset_zero]
    have q3 : ∀ (R : AH) (n : Nat), (h ++ (jj ++ R))[h.length + (jj.length + n)]? = R[n]? := fun R n => by rw [hget_add, hget_add]
    have q4 : ∀ (R : AH) (n : Nat) (o : AObj), (h ++ (jj ++ R)).set (h.length + (jj.length + n)) o = h ++ (jj ++ R.set n o) := fun R n o => by rw [hset_add, hset_add]
    simp only [encB] at e1 c7
    simp (disch := omega) only [go_sem, seval]
    refine aIf.pos (by omega) ?_
    simp (disch := omega) only [go_sem, seval, e1, q1, q2, q3, q4, List.length_append]
    refine ACalls.det (c7 _) ?_
    simp (disch := omega) only [go_sem, seval]
    refine AWP.keep [1, 3, 4, 5, 17, 18, 19, 53, 54, 55, 64] ?_
    simp (disch := omega) only [go_sem, seval]
    refine awp_rangeFuncL rfl (fun li hli => ?_)
    simp (disch := omega) only [go_sem, seval, List.length_append]
    obtain ⟨S, hS⟩ : ∃ S : List Us → Int × Int, ∀ d, S d = sumP allU d := ⟨_, fun _ => rfl⟩
    obtain ⟨H, hH⟩ : ∃ H : Int → Int → AObj → AH, ∀ c s lo, H c s lo = (h ++ jj) ++ [.row (budC b) 40, .row [.int .i64 c] 3, .row [.int .i64 s] 3, lo] := ⟨_, fun _ _ _ => rfl⟩
    obtain ⟨hp, hhp⟩ : ∃ hp : List Us → AH, ∀ d, hp d = H (1 + (S d).1) (v + (S d).2) (.loop .ready none li) := ⟨_, fun _ => rfl⟩
    have Hn : ∀ c s lo, (H c s lo).length = h.length + (jj.length + 4) := fun c s lo => by rw [hH]; simp
    have hpn : ∀ d, (hp d).length = h.length + (jj.length + 4) := fun d => by rw [hhp, Hn]
    have K1 : ∀ c s lo (R : AH), (H c s lo ++ R)[h.length + (jj.length + 1)]? = some (.row [.int .i64 c] 3) := fun c s lo R => by rw [hH, List.append_assoc, List.append_assoc, hget_add, hget_add]; rfl
    have K2 : ∀ c s lo (R : AH), (H c s lo ++ R)[h.length + (jj.length + 2)]? = some (.row [.int .i64 s] 3) := fun c s lo R => by rw [hH, List.append_assoc, List.append_assoc, hget_add, hget_add]; rfl
    have KL : ∀ c s lo (R : AH), (H c s lo ++ R)[h.length + (jj.length + 3)]? = some lo := fun c s lo R => by rw [hH, List.append_assoc, List.append_assoc, hget_add, hget_add]; rfl
    have S1 : ∀ c s lo (R : AH) c', (H c s lo ++ R).set (h.length + (jj.length + 1)) (.row [.int .i64 c'] 3) = H c' s lo ++ R := fun c s lo R c' => by rw [hH, hH, List.append_assoc, List.append_assoc, hset_add, hset_add, List.append_assoc, List.append_assoc]; rfl
    have S2 : ∀ c s lo (R : AH) s', (H c s lo ++ R).set (h.length + (jj.length + 2)) (.row [.int .i64 s'] 3) = H c s' lo ++ R := fun c s lo R c' => by rw [hH, hH, List.append_assoc, List.append_assoc, hset_add, hset_add, List.append_assoc, List.append_assoc]; rfl
    have SL : ∀ c s lo (R : AH) lo', (H c s lo ++ R).set (h.length + (jj.length + 3)) lo' = H c s lo' ++ R := fun c s lo R c' => by rw [hH, hH, List.append_assoc, List.append_assoc, hset_add, hset_add, List.append_assoc, List.append_assoc]; rfl
    refine ACalls.mono ((c8 (h.length + (jj.length + 3)) hp (h.length + (jj.length + 4)) hpn ?_).heap ?_) ?_
    · rintro d x j2 ⟨r', hd'⟩
      have hxm := husm x (by rw [hd']; simp)
      have hx := rightU_facts hxm
      have hsum := sum_facts (p := allU) (l := d) fun y hy => husm y (by rw [hd']; simp [hy])
      have hdl : d.length ≤ us.length := by rw [hd']; simp
      rw [← hS] at hsum
      have hSx : S (d ++ [x]) = ((S d).1 + 1, (S d).2 + x.value) := by rw [hS, hS, sumP_snoc, if_pos (show allU x = true from rfl)]
      rw [hhp, hhp, hSx]
      generalize S d = s at *
      obtain ⟨c, sv⟩ := s
      simp only at hsum ⊢
      refine ayield_L hli (KL _ _ _ _) rfl rfl Ty.mixed (by kernel_rfl) (by kernel_rfl) ?_
      simp (disch := omega) only [go_sem, seval, K1, K2, KL, SL, S1, S2]
      exact ⟨j2, by rw [Int.add_assoc, Int.add_assoc]⟩
    · rw [hhp, hH, hS]
      simp [sumP, budC]
    · rintro _ _ ⟨j2, rfl⟩
      refine ⟨(h ++ jj) ++ [.row (budC b) 40, .row [.int .i64 (1 + (S us).1)] 3, .row [.int .i64 (v + (S us).2)] 3], .ready, none, j2, ?_, ?_, by simp, ?_⟩
      · rw [hhp, hH]; simp
      · have p1 := LoopKept.set (h := (h ++ jj) ++ [.row (budC b) 40, .row [.int .i64 1] 3, .row [.int .i64 v] 3])
          (i := (h ++ jj).length + 1) (ob := .row [.int .i64 (1 + (S us).1)] 3) (RBs.cons (.int _ _) (RBs.nil _)) (by simp)
        have p2 := LoopKept.set (h := (h ++ jj) ++ [.row (budC b) 40, .row [.int .i64 (1 + (S us).1)] 3, .row [.int .i64 v] 3])
          (i := (h ++ jj).length + 2) (ob := .row [.int .i64 (v + (S us).2)] 3) (RBs.cons (.int _ _) (RBs.nil _)) (by simp)
        rw [hset_add] at p1 p2
        have := p1.trans p2
        simpa [budC] using this
      · have hsum := sum_facts (p := allU) (l := us) husm
        rw [← hS] at hT hsum
        generalize S us = s at *
        obtain ⟨c, sv⟩ := s
        simp only at hT hsum
        simp (disch := omega) only [go_sem, seval, List.append_assoc]
        refine AWP.keep [1, 3, 4, 5, 17, 18, 19, 53, 54, 55] (aCode_ok Ty.mixed _ _ _ _ (by kernel_rfl) ?_)
        simp (disch := omega) only [go_sem, seval, q1, q2, q3, q4, budC]
        have fnd : tight u v at_ known b = true → st.find? (tight u v at_ known) = some b := fun e => by
          rw [hd, List.find?_append, List.find?_eq_none.2 fun y hy => by rw [hs y hy]; simp]
          simp [e]
        refine aIf.intro (fun h1 => ?_) (fun h1 => ?_) <;> simp (disch := omega) only [go_sem, seval, q1, q2, q3, q4, budC]
        · rw [fnd (by rw [hT, decide_eq_true h1]; rfl)]
          rfl
        refine aIf.intro (fun h2 => ?_) (fun h2 => ?_) <;> simp (disch := omega) only [go_sem, seval, q1, q2, q3, q4, budC]
        · rw [fnd (by rw [hT, decide_eq_true h2]; simp)]
          rfl
        · refine AWP.keep [1, 3, 4, 5, 53, 54, 55] (aCode_ok Ty.mixed _ _ _ _ (by kernel_rfl) ?_)
          simp (disch := omega) only [go_sem, seval]
          refine roundL_next (jj ++ [.row (budC b) 40, .row [.int .i64 (1 + c)] 3, .row [.int .i64 (v + sv)] 3]) ?_ ?_ ?_
          · intro y hy
            rcases List.mem_append.1 hy with hy | hy
            · exact hs y hy
            · rw [List.mem_singleton] at hy; subst hy; rw [hT, decide_eq_false h1, decide_eq_false h2]; rfl
          · simp (disch := omega) only [go_sem, seval, List.length_append]
          · simp [budC]
  · intro jj hs
    simp (disch := omega) only [go_sem, seval]
    refine AWP.keep [] (aCode_ok Ty.mixed _ _ _ _ (by kernel_rfl) ?_)
    simp (disch := omega) only [go_sem, seval]
    rw [List.find?_eq_none.2 fun y hy => by rw [hs y hy]; simp]
    rfl
end Go.Proofs.Ytelehpccfaedjaa

/- The chapter's examples; AccountsSpec, AccountsHistorySpec: the code. No conditions. -/
set_option linter.unusedSimpArgs false
set_option linter.unusedVariables false
namespace Go.Proofs.Ytelehpccfaedjaa
open Go Go.Proofs Go.Abs

def exL : List Bg := [⟨3, 0, 0, 1, 10, 2, 100, false⟩, ⟨4, 0, 50, 1, 10, 1, 100, false⟩, ⟨9, 0, 0, 2, 7, 0, 0, true⟩]
def exU : List Us := [⟨1, 1, 60, 12, 0⟩, ⟨2, 1, 30, 15, 0⟩, ⟨3, 2, 5, 15, 0⟩, ⟨5, 1, 1, 21, 30⟩]
theorem ex1 : spentR [] [] 0 0 0 = (0, 0, 1) := by decide +kernel
theorem ex2 : overR [] [] 0 = ([], 0) := by decide +kernel
theorem ex3 : histR exL [] 3 0 0 = ([], 0) := by decide +kernel
theorem ex4 : overR [] [⟨0, 16, 0, 0, 0⟩] 0 = ([], 180) := by decide +kernel
theorem ex5 : spentR exL exU 3 19 0 = (2, 90, 0) := by decide +kernel
theorem ex6 : spentR exL exU 3 14 0 = (1, 60, 0) := by decide +kernel
theorem ex7 : spentR exL exU 3 25 29 = (0, 0, 0) := by decide +kernel
theorem ex8 : spentR exL exU 3 25 30 = (1, 1, 0) := by decide +kernel
theorem ex9 : overR exL exU 49 = ([], 0) := by decide +kernel
theorem ex10 : overR exL exU 50 = ([4], 0) := by decide +kernel
theorem ex11 : histR exL exU 4 1 0 = ([⟨12, 1, true⟩, ⟨15, 2, false⟩], 0) := by decide +kernel
theorem ex12 : spentR exL exU 9 0 0 = (0, 0, 1) := by decide +kernel
theorem ex13 : histR exL exU 3 109951162778 0 = ([], 1) := by decide +kernel
theorem exU_enc (o : Abs.Own) : looseL [.sl [.agg [.int .i64 1, .int .i64 1, .int .i64 60, .int .i64 12, .int .i64 0], .agg [.int .i64 2, .int .i64 1, .int .i64 30, .int .i64 15, .int .i64 0], .agg [.int .i64 3, .int .i64 2, .int .i64 5, .int .i64 15, .int .i64 0], .agg [.int .i64 5, .int .i64 1, .int .i64 1, .int .i64 21, .int .i64 30]] o] = [.sl (encUs exU) .free] := rfl
theorem exL_enc (o : Abs.Own) : looseL [.sl [.agg [.int .i64 3, .int .i64 0, .int .i64 0, .int .i64 1, .int .i64 10, .int .i64 2, .int .i64 100, .bool false], .agg [.int .i64 4, .int .i64 0, .int .i64 50, .int .i64 1, .int .i64 10, .int .i64 1, .int .i64 100, .bool false], .agg [.int .i64 9, .int .i64 0, .int .i64 0, .int .i64 2, .int .i64 7, .int .i64 0, .int .i64 0, .bool true]] o] = [.sl (encBs exL) .free] := rfl
set_option maxHeartbeats 4000000 in
set_option maxRecDepth 100000 in
theorem sane53_calls (Γ : Nat → Option (List AV)) (h : AH) :
    ACalls Try.prog Γ 13 [] h fun v h' => h' = h ∧ v = .bool true := by
  have c1 := fun h => pSpent_calls Γ [] [] 0 0 0 h (by decide) (by decide)
  have c2 := fun h => pOver_calls Γ [] [] 0 h (by decide) (by decide)
  have c3 := fun h => pHistory_calls Γ exL [] 3 0 0 h (by decide) (by decide)
  have c4 := fun h => pOver_calls Γ [] [⟨0, 16, 0, 0, 0⟩] 0 h (by decide) (by decide)
  have c5 := fun h => pSpent_calls Γ exL exU 3 19 0 h (by decide) (by decide)
  have c6 := fun h => pSpent_calls Γ exL exU 3 14 0 h (by decide) (by decide)
  have c7 := fun h => pSpent_calls Γ exL exU 3 25 29 h (by decide) (by decide)
  have c8 := fun h => pSpent_calls Γ exL exU 3 25 30 h (by decide) (by decide)
  have c9 := fun h => pOver_calls Γ exL exU 49 h (by decide) (by decide)
  have c10 := fun h => pOver_calls Γ exL exU 50 h (by decide) (by decide)
  have c11 := fun h => pHistory_calls Γ exL exU 4 1 0 h (by decide) (by decide)
  have c12 := fun h => pSpent_calls Γ exL exU 9 0 0 h (by decide) (by decide)
  have c13 := fun h => pHistory_calls Γ exL exU 3 109951162778 0 h (by decide) (by decide)
  rw [ex1] at c1
  rw [ex2] at c2
  rw [ex3] at c3
  rw [ex4] at c4
  rw [ex5] at c5
  rw [ex6] at c6
  rw [ex7] at c7
  rw [ex8] at c8
  rw [ex9] at c9
  rw [ex10] at c10
  rw [ex11] at c11
  rw [ex12] at c12
  rw [ex13] at c13
  refine ACalls.drop ?_
  refine acalls_of_awp (rs := [.tmp 0]) Try.func13 rfl rfl rfl rfl ?_
  refine awp_seq (aCode_ok Ty.mixed _ _ _ _ (by kernel_rfl) ?_)
  simp (disch := omega) only [go_sem, seval]
  refine awp_seq (aCode_ok Ty.mixed _ _ _ _ (by kernel_rfl) ?_)
  simp (disch := omega) only [go_sem, seval]
  refine awp_seq (aCode_ok Ty.mixed _ _ _ _ (by kernel_rfl) ?_)
  simp (disch := omega) only [go_sem, seval]
  refine awp_seq (aCode_ok Ty.mixed _ _ _ _ (by kernel_rfl) ?_)
  simp (disch := omega) only [go_sem, seval]
  refine ACalls.det ((c1 _).ofLoose rfl) ?_
  simp (disch := omega) only [go_sem, seval]
  refine awp_seq (aCode_ok Ty.mixed _ _ _ _ (by kernel_rfl) ?_)
  simp (disch := omega) only [go_sem, seval]
  refine ACalls.det ((c2 _).ofLoose rfl) ?_
  simp (disch := omega) only [go_sem, seval]
  refine awp_seq (aCode_ok Ty.mixed _ _ _ _ (by kernel_rfl) ?_)
  simp (disch := omega) only [go_sem, seval]
  refine ACalls.det ((c3 _).ofLoose rfl) ?_
  simp (disch := omega) only [go_sem, seval]
  refine awp_seq (aCode_ok Ty.mixed _ _ _ _ (by kernel_rfl) ?_)
  simp (disch := omega) only [go_sem, seval]
  refine ACalls.det ((c4 _).ofLoose rfl) ?_
  simp (disch := omega) only [go_sem, seval]
  refine awp_seq (aCode_ok Ty.mixed _ _ _ _ (by kernel_rfl) ?_)
  simp (disch := omega) only [go_sem, seval]
  refine ACalls.det ((c5 _).ofLoose rfl) ?_
  simp (disch := omega) only [go_sem, seval]
  refine awp_seq (aCode_ok Ty.mixed _ _ _ _ (by kernel_rfl) ?_)
  simp (disch := omega) only [go_sem, seval]
  refine ACalls.det ((c6 _).ofLoose rfl) ?_
  simp (disch := omega) only [go_sem, seval]
  refine awp_seq (aCode_ok Ty.mixed _ _ _ _ (by kernel_rfl) ?_)
  simp (disch := omega) only [go_sem, seval]
  refine ACalls.det ((c7 _).ofLoose rfl) ?_
  simp (disch := omega) only [go_sem, seval]
  refine awp_seq (aCode_ok Ty.mixed _ _ _ _ (by kernel_rfl) ?_)
  simp (disch := omega) only [go_sem, seval]
  refine ACalls.det ((c8 _).ofLoose rfl) ?_
  simp (disch := omega) only [go_sem, seval]
  refine awp_seq (aCode_ok Ty.mixed _ _ _ _ (by kernel_rfl) ?_)
  simp (disch := omega) only [go_sem, seval]
  refine ACalls.det ((c9 _).ofLoose rfl) ?_
  simp (disch := omega) only [go_sem, seval]
  refine awp_seq (aCode_ok Ty.mixed _ _ _ _ (by kernel_rfl) ?_)
  simp (disch := omega) only [go_sem, seval]
  refine ACalls.det ((c10 _).ofLoose rfl) ?_
  simp (disch := omega) only [go_sem, seval]
  refine awp_seq (aCode_ok Ty.mixed _ _ _ _ (by kernel_rfl) ?_)
  simp (disch := omega) only [go_sem, seval]
  refine ACalls.det ((c11 _).ofLoose rfl) ?_
  simp (disch := omega) only [go_sem, seval]
  refine awp_seq (aCode_ok Ty.mixed _ _ _ _ (by kernel_rfl) ?_)
  simp (disch := omega) only [go_sem, seval]
  refine ACalls.det ((c12 _).ofLoose rfl) ?_
  simp (disch := omega) only [go_sem, seval]
  refine awp_seq (aCode_ok Ty.mixed _ _ _ _ (by kernel_rfl) ?_)
  simp (disch := omega) only [go_sem, seval]
  refine ACalls.det ((c13 _).ofLoose rfl) ?_
  simp (disch := omega) only [go_sem, seval]
  refine awp_seq (aCode_ok Ty.mixed _ _ _ _ (by kernel_rfl) ?_)
  simp (disch := omega) only [go_sem, seval]
  refine awp_seq (aCode_ok Ty.mixed _ _ _ _ (by kernel_rfl) ?_)
  simp (disch := omega) only [go_sem, seval, encI, List.map_nil, List.map_cons, List.length_nil]
  refine aCode_ok Ty.mixed _ _ _ _ (by kernel_rfl) ?_
  simp (disch := omega) only [go_sem, seval]
  refine ACalls.det ((sameInts_calls Γ [4] _ (by decide)).ofLoose rfl) ?_
  simp (disch := omega) only [go_sem, seval]
  refine ACalls.det ((sameSteps_calls Γ [⟨12, 1, true⟩, ⟨15, 2, false⟩] _ (by decide)).ofLoose rfl) ?_
  simp (disch := omega) only [go_sem, seval]
theorem overR_len (l : List Bg) (u : List Us) (n : Int) : (overR l u n).1.length ≤ l.length := by
  rw [overR]
  split
  · simp
  · split
    · rw [overF, List.length_map]; exact List.length_filter_le _ _
    · simp
theorem histR_len (l : List Bg) (u : List Us) (no p n : Int) : (histR l u no p n).1.length ≤ u.length := by
  rw [histR]
  split
  · simp
  · split
    · split
      · rw [stepsF, List.length_map]; exact timesF_len _ _ _ _
      · simp
    · simp
set_option maxRecDepth 100000 in
theorem accSpec_calls (Γ : Nat → Option (List AV)) (l : List Bg) (u : List Us) (no at_ known : Int) (h : AH) :
    ACalls Try.prog Γ 3 [.sl (encBs l) .free, .sl (encUs u) .free, .int .i64 no, .int .i64 at_, .int .i64 known] h fun v h' => h' = h ∧ v = .bool true := by
  refine ACalls.drop ?_
  refine acalls_code (rs := [.tmp 10]) Try.func3 rfl rfl rfl rfl Ty.mixed (by kernel_rfl) ?_
  simp (disch := omega) only [go_sem, seval]
  refine ACalls.det (sane53_calls Γ _) ?_
  simp (disch := omega) only [go_sem, seval]
  refine ACalls.det (few53_calls Γ l u _) ?_
  cases hf : fewA l u with
  | false => simp (disch := omega) only [go_sem, seval]
  | true =>
  have hlen := few_le hf
  have c1 := fun h => pSpent_calls Γ l u no at_ known h (by omega) (by omega)
  have c2 := fun h => rSpent_calls Γ l u no at_ known h (by omega) (by omega)
  have c3 := fun h => pOver_calls Γ l u known h (by omega) (by omega)
  have c4 := fun h => rOver_calls Γ l u known h (by omega) (by omega)
  have hol := overR_len l u known
  have c5 := fun h => sameInts_calls Γ (overR l u known).1 h (by omega)
  generalize spentR l u no at_ known = s at *
  generalize overR l u known = o at *
  obtain ⟨s1, s2, s3⟩ := s
  obtain ⟨o1, o2⟩ := o
  simp only at c1 c2 c3 c4 c5
  simp (disch := omega) only [go_sem, seval]
  refine ACalls.det (c1 _) ?_
  simp (disch := omega) only [go_sem, seval]
  refine ACalls.det (c2 _) ?_
  simp (disch := omega) only [go_sem, seval]
  refine ACalls.det (c3 _) ?_
  simp (disch := omega) only [go_sem, seval]
  refine ACalls.det (c4 _) ?_
  simp (disch := omega) only [go_sem, seval]
  refine ACalls.det (c5 _) ?_
  simp (disch := omega) only [go_sem, seval]
set_option maxRecDepth 100000 in
theorem accHistory_calls (Γ : Nat → Option (List AV)) (l : List Bg) (u : List Us) (no p known : Int) (h : AH) :
    ACalls Try.prog Γ 4 [.sl (encBs l) .free, .sl (encUs u) .free, .int .i64 no, .int .i64 p, .int .i64 known] h fun v h' => h' = h ∧ v = .bool true := by
  refine ACalls.drop ?_
  refine acalls_code (rs := [.tmp 10]) Try.func4 rfl rfl rfl rfl Ty.mixed (by kernel_rfl) ?_
  simp (disch := omega) only [go_sem, seval]
  refine ACalls.det (sane53_calls Γ _) ?_
  simp (disch := omega) only [go_sem, seval]
  refine ACalls.det (few53_calls Γ l u _) ?_
  cases hf : fewA l u with
  | false => simp (disch := omega) only [go_sem, seval]
  | true =>
  have hlen := few_le hf
  have c1 := fun h => pHistory_calls Γ l u no p known h (by omega) (by omega)
  have c2 := fun h => rHistory_calls Γ l u no p known h (by omega) (by omega)
  have hol := histR_len l u no p known
  have c5 := fun h => sameSteps_calls Γ (histR l u no p known).1 h (by omega)
  generalize histR l u no p known = s at *
  obtain ⟨s1, s2⟩ := s
  simp only at c1 c2 c5
  simp (disch := omega) only [go_sem, seval]
  refine ACalls.det (c1 _) ?_
  simp (disch := omega) only [go_sem, seval]
  refine ACalls.det (c2 _) ?_
  simp (disch := omega) only [go_sem, seval]
  refine ACalls.det (c5 _) ?_
  simp (disch := omega) only [go_sem, seval]
end Go.Proofs.Ytelehpccfaedjaa
