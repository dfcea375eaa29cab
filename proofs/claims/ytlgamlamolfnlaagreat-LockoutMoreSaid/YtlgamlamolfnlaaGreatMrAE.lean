/- Texts joined: LokI, LokJ. No conditions. -/
import Derived.Test.YtlgamlamolfnlaaGreatMrAD
/- The program's Safe. No conditions. -/
set_option linter.unusedSimpArgs false
set_option linter.unusedVariables false
namespace Go.Proofs.YtlgamlamolfnlaaGreat
open Go Go.Proofs Go.Abs

def encSf (r : List (List Int) × Bool × Int) : AV := .tuple [.sl (encII r.1) .free, .bool r.2.1, .int .i64 r.2.2]
/-- Safe's heap. -/
def sfK (h : AH) (G lc : AObj) (a b c : AV) (lo : AObj) (X : AH) : AH := h ++ ([G, .row [a] 33, .row [b] 4, .row [c] 28, lc, lo] ++ X)
section
variable {h : AH} {G lc : AObj} {a b c : AV} {lo : AObj} {X : AH}
theorem sf_len : (sfK h G lc a b c lo X).length = h.length + 6 + X.length := by simp [sfK]; omega
theorem sf_G : (sfK h G lc a b c lo X)[h.length]? = some G := by simp [sfK]
theorem sf_l : (sfK h G lc a b c lo X)[h.length + 4]? = some lc := by simp [sfK]
theorem sf_L : (sfK h G lc a b c lo X)[h.length + 5]? = some lo := by simp [sfK]
theorem sf_X (q : Nat) : (sfK h G lc a b c lo X)[h.length + 6 + q]? = X[q]? := by
  rw [sfK, Nat.add_assoc, hget_add, List.getElem?_append_right (by simp)]
  congr 1; simp
theorem sf_XS (q : Nat) (o : AObj) : (sfK h G lc a b c lo X).set (h.length + 6 + q) o = sfK h G lc a b c lo (X.set q o) := by
  rw [sfK, Nat.add_assoc, hset_add, List.set_append_right _ _ (by simp)]
  rw [sfK]; congr 3; simp
theorem sf_a (x : AV) : (sfK h G lc a b c lo X).set (h.length + 1) (.row [x] 33) = sfK h G lc x b c lo X := by rw [sfK, hset_add]; rfl
theorem sf_b (x : AV) : (sfK h G lc a b c lo X).set (h.length + 2) (.row [x] 4) = sfK h G lc a x c lo X := by rw [sfK, hset_add]; rfl
theorem sf_c (x : AV) : (sfK h G lc a b c lo X).set (h.length + 3) (.row [x] 28) = sfK h G lc a b x lo X := by rw [sfK, hset_add]; rfl
theorem sf_set (x : AObj) : (sfK h G lc a b c lo X).set (h.length + 5) x = sfK h G lc a b c x X := by rw [sfK, hset_add]; rfl
theorem sf_ga : (sfK h G lc a b c lo X)[h.length + 1]? = some (.row [a] 33) := by simp [sfK]
theorem sf_gb : (sfK h G lc a b c lo X)[h.length + 2]? = some (.row [b] 4) := by simp [sfK]
theorem sf_gc : (sfK h G lc a b c lo X)[h.length + 3]? = some (.row [c] 28) := by simp [sfK]
theorem sf_app (Y : AH) : sfK h G lc a b c lo X ++ Y = sfK h G lc a b c lo (X ++ Y) := by simp [sfK]
end
theorem safe_snoc {sets : List (List Int)} : ∀ {don : List (List Int)} {out : List (List Int)} {x s : List Int}, safeF sets don = some out → sets.find? (fun s => apartF s x) = some s → safeF sets (don ++ [x]) = some (out ++ [s])
  | [], out, x, s, h, hf => by
    rw [safeF] at h; cases h
    rw [List.nil_append, safeF, hf]; rfl
  | c :: r, out, x, s, h, hf => by
    rw [safeF] at h
    rw [List.cons_append, safeF]
    cases hc : sets.find? (fun s => apartF s c) with
    | none => rw [hc] at h; cases h
    | some t =>
      rw [hc] at h
      obtain ⟨o2, h1, rfl⟩ := Option.map_eq_some_iff.1 h
      simp only
      rw [safe_snoc h1 hf]; rfl
theorem safe_stop {sets : List (List Int)} : ∀ {don r : List (List Int)} {x : List Int}, sets.find? (fun s => apartF s x) = none → safeF sets (don ++ x :: r) = none
  | [], r, x, h => by rw [List.nil_append, safeF, h]
  | c :: d, r, x, h => by
    rw [List.cons_append, safeF]
    cases sets.find? (fun s => apartF s c) with
    | none => rfl
    | some t => simp only; rw [safe_stop h]; rfl
theorem OwnAt.len {K K' j : AH} {n : Nat} {own : Abs.Own} (ho : OwnAt K j n own) (e : K.length = K'.length) : OwnAt K' j n own := by
  cases own with
  | full => trivial
  | free => exact ho
  | arena i => obtain ⟨i', h1, h2⟩ := ho; exact ⟨i', by rw [h1, e], h2⟩
set_option maxHeartbeats 1600000 in
set_option maxRecDepth 100000 in
theorem safe26_calls (Γ : Nat → Option (List AV)) (g : Gt) (most : Int) (h : AH) (hs : Sh g) :
    ACalls Tryz.prog Γ 13 [encG g, .int .i64 most] h fun v h' => h' = h ∧ v = encSf (safeR g most) := by
  cases g with | mk p n gl =>
  obtain ⟨g, hg⟩ : ∃ g, g = Gt.mk p n gl := ⟨_, rfl⟩
  have eG : encG g = .agg [.int .i64 p, .int .i64 n, .sl (gl.map encG) .free] := by rw [hg, encG_mk]
  rw [← hg] at hs ⊢
  have c0 := fun h => check26_calls Γ g most h hs
  rw [eG] at c0
  rw [eG]
  refine ACalls.dropL ?_
  refine acalls_code (rs := [.cell 4 33, .cell 5 4, .cell 6 28]) Tryz.func13 rfl rfl rfl rfl Ty.mixed (by kernel_rfl) ?_
  simp (disch := omega) only [go_sem, seval]
  refine ACalls.det (c0 _) ?_
  simp (disch := omega) only [go_sem, seval]
  refine aIf.intro (fun herr => ?_) (fun herr => ?_) <;> simp (disch := omega) only [go_sem, seval]
  rotate_left
  · rw [safeR, if_neg herr]
    rfl
  rw [safeR, if_pos herr, if_pos herr]
  have hk := errL_ok herr
  have hm := hk.m
  have c1 := fun h => people26_calls Γ g h hs hk.c hk.n
  have c2 := fun h => great_calls Γ g (pplF g) most h
  rw [eG] at c1 c2
  have hn := hk.n
  refine aCallF.intro (fun _ => c1 _) ?_
  simp (disch := omega) only [go_sem, seval]
  refine aCallF.intro (fun _ => c2 _) ?_
  simp (disch := omega) only [go_sem, seval]
  refine AWP.keep [4, 5, 6, 7, 24] ?_
  simp (disch := omega) only [go_sem, seval]
  rw [herr]
  refine awp_rangeFuncNL rfl (fun li hli => ?_)
  have hP := ppl_lt hk.c
  have hsl : ∀ s ∈ setsF g, s.length ≤ 12 := fun s hs => by
    have := ((mem_mins hP s).1 hs).1.length_le; omega
  have hss := hk.s
  have hgl : (greatF g most).length ≤ 4096 := by
    have h1 := choose_pow (pplF g) (topF g most)
    have h2 : 2 ^ (pplF g).length ≤ 2 ^ 12 := Nat.pow_le_pow_right (by decide) hn
    have h3 := List.length_filter_le (permF g) (chooseF (pplF g) (topF g most))
    rw [greatF]; omega
  obtain ⟨L1, hL1⟩ : ∃ L1, L1 = h.length + 5 := ⟨_, rfl⟩
  obtain ⟨K, hK⟩ : ∃ K : AV → AV → AV → AObj → AH → AH, K = sfK h (.row [.int .i64 p, .int .i64 n, .sl (gl.map encG) .free] 24) (.row [.sl (encII (setsF g)) .free] 33) := ⟨_, rfl⟩
  have Klen : ∀ a b c lo X, (K a b c lo X).length = L1 + 1 + X.length := fun a b c lo X => by rw [hK, sf_len, hL1]
  have Kl : ∀ a b c lo X, (K a b c lo X)[h.length + 4]? = some (.row [.sl (encII (setsF g)) .free] 33) := fun a b c lo X => by rw [hK, sf_l]
  have KL : ∀ a b c lo X, (K a b c lo X)[L1]? = some lo := fun a b c lo X => by rw [hK, hL1, sf_L]
  have KX : ∀ a b c lo X q, (K a b c lo X)[L1 + 1 + q]? = X[q]? := fun a b c lo X q => by rw [hK, hL1, sf_X]
  have KXS : ∀ a b c lo X q o, (K a b c lo X).set (L1 + 1 + q) o = K a b c lo (X.set q o) := fun a b c lo X q o => by rw [hK, hL1, sf_XS]
  have Ka : ∀ a b c lo X, (K a b c lo X)[h.length + 1]? = some (.row [a] 33) := fun a b c lo X => by rw [hK, sf_ga]
  have Kb : ∀ a b c lo X, (K a b c lo X)[h.length + 2]? = some (.row [b] 4) := fun a b c lo X => by rw [hK, sf_gb]
  have Kc : ∀ a b c lo X, (K a b c lo X)[h.length + 3]? = some (.row [c] 28) := fun a b c lo X => by rw [hK, sf_gc]
  have Sa : ∀ a b c lo X x, (K a b c lo X).set (h.length + 1) (.row [x] 33) = K x b c lo X := fun a b c lo X x => by rw [hK, sf_a]
  have Sb : ∀ a b c lo X x, (K a b c lo X).set (h.length + 2) (.row [x] 4) = K a x c lo X := fun a b c lo X x => by rw [hK, sf_b]
  have Sc : ∀ a b c lo X x, (K a b c lo X).set (h.length + 3) (.row [x] 28) = K a b x lo X := fun a b c lo X x => by rw [hK, sf_c]
  have SL : ∀ a b c lo X x, (K a b c lo X).set L1 x = K a b c x X := fun a b c lo X x => by rw [hK, hL1, sf_set]
  have KA : ∀ a b c lo X Y, K a b c lo X ++ Y = K a b c lo (X ++ Y) := fun a b c lo X Y => by rw [hK, sf_app]
  have KN : ∀ a b c lo X, K a b c lo X = K a b c lo [] ++ X := fun a b c lo X => by rw [KA, List.nil_append]
  have KD : ∀ a b c lo X, ∃ l, K a b c lo X = h ++ l := fun a b c lo X => by rw [hK]; exact ⟨_, rfl⟩
  obtain ⟨B0, hB0⟩ : ∃ B0 : AH, B0 = h ++ [.row [.int .i64 p, .int .i64 n, .sl (gl.map encG) .free] 24, .row [.sl [] .full] 33, .row [.bool false] 4, .row [.int .i64 0] 28, .row [.sl (encII (setsF g)) .free] 33] := ⟨_, rfl⟩
  rw [← hB0]
  have hB0l : B0.length = L1 := by rw [hB0, hL1]; simp
  have hH0 : B0 ++ [.loop .ready none li] = K (.sl [] .full) (.bool false) (.int .i64 0) (.loop .ready none li) [] := by rw [hB0, hK]; simp [sfK]
  rw [hH0]
  have KK : ∀ a b c a' b' c' s p s' p' X Y, Kept (L1 + 1) (K a b c (.loop s p li) X) (K a b c (.loop s p li) Y) → Kept (L1 + 1) (K a b c (.loop s p li) X) (K a' b' c' (.loop s' p' li) Y) := fun a b c a' b' c' s p s' p' X Y hY => by
    have q := (((hY.setRow (i := h.length + 1) (cs := [a']) (T := 33) (by omega)).setRow (i := h.length + 2) (cs := [b']) (T := 4) (by omega)).setRow (i := h.length + 3) (cs := [c']) (T := 28) (by omega)).setB (i := L1) (s := s') (p := p') (li := li) (by omega) (KL ..)
    rwa [Sa, Sb, Sc, SL] at q
  have C : Consumer Tryz.prog Γ (Fra (L1 + 1)) L1 (L1 + 1) encL1 (greatF g most) (fun don hx => ∃ out own X, safeF (setsF g) don = some out ∧ OwnAt (K (.sl [] .full) (.bool false) (.int .i64 0) (.loop .ready none li) []) X out.length own ∧ hx = K (.sl (encII out) own) (.bool false) (.int .i64 0) (.loop .ready none li) X)
      (fun hx => ∃ don x r X, greatF g most = don ++ x :: r ∧ (setsF g).find? (fun s => apartF s x) = none ∧ hx = K (.sl [] .full) (.bool false) (.int .i64 0) (.loop .done (some .ret) li) X) := by
    refine ⟨?_, ?_, ?_⟩
    · rintro don h1 h2 ⟨out, own, X, k1, k2, rfl⟩ hf
      rw [KN] at hf
      rw [show L1 + 1 = (K (.sl (encII out) own) (.bool false) (.int .i64 0) (.loop .ready none li) []).length from by rw [Klen]; rfl] at hf
      obtain ⟨Y, rfl, _, hY⟩ := hf.split
      exact ⟨out, own, Y, k1, OwnAt.fra k2 hY, by rw [← KN]⟩
    · rintro h1 h2 ⟨don, x, r, X, k1, k2, rfl⟩ hf
      rw [KN] at hf
      rw [show L1 + 1 = (K (.sl [] .full) (.bool false) (.int .i64 0) (.loop .done (some .ret) li) []).length from by rw [Klen]; rfl] at hf
      obtain ⟨Y, rfl, _, _⟩ := hf.split
      exact ⟨don, x, r, Y, k1, k2, by rw [← KN]⟩
    · rintro don x r h1 hdx hb1 ⟨out, own, X, k1, k2, rfl⟩
      have hxl : x.length ≤ 12 := by
        have : x ∈ greatF g most := by rw [hdx]; simp
        rw [greatF] at this
        have := choose_mem _ _ x (List.mem_filter.1 this).1
        have h2 : topF g most ≤ (pplF g).length := Nat.min_le_right _ _
        omega
      have hol := (safe_len _ _ _ k1).1
      have hdl : don.length ≤ 4096 := by
        have := congrArg List.length hdx
        simp at this; omega
      rw [encL1]
      refine ayield_W hli (KL ..) rfl rfl Ty.mixed (by kernel_rfl) ?_
      simp (disch := omega) only [go_sem, seval, KL, SL]
      obtain ⟨Y, hY⟩ : ∃ Y, Y = X ++ wtO (L1 + 1 + X.length) x := ⟨_, rfl⟩
      have hYl : Y.length = X.length + 2 := by rw [hY]; simp [wtO]
      have hY0 : Y[X.length]? = some (mapO (wkF [] x)) := by rw [hY]; simp [wtO]
      have hY1 : Y[X.length + 1]? = some (.row [.map (some (L1 + 1 + X.length))] 78) := by rw [hY]; simp [wtO]
      have cC := fun v lo => without26_calls Γ x (K v (.bool false) (.int .i64 0) lo X) (by omega)
      simp only [KA, Klen, ← hY] at cC
      refine aCode_ok Ty.mixed _ _ _ _ (by kernel_rfl) ?_
      simp (disch := omega) only [go_sem, seval]
      refine ACalls.detH (cC _ _) ?_
      have hYs : ∀ a b : AObj, (Y ++ [a]).set Y.length b = Y ++ [b] := fun a b => by simp
      have hYg : ∀ a : AObj, (Y ++ [a])[Y.length]? = some a := fun a => by simp
      simp (disch := omega) only [go_sem, seval, KA, Klen, Kl, KX, KXS, wtV, hYs, hYg]
      obtain ⟨Z, hZ⟩ : ∃ Z, Z = Y ++ [.row [wtV (L1 + 1 + X.length + 1)] 57] := ⟨_, rfl⟩
      have hZg : Z[Y.length]? = some (.row [wtV (L1 + 1 + X.length + 1)] 57) := by rw [hZ]; simp
      have hZ0 : Z[X.length]? = some (mapO (wkF [] x)) := by rw [hZ, List.getElem?_append_left (hget_of hY0)]; exact hY0
      have hZ1 : Z[X.length + 1]? = some (.row [.map (some (L1 + 1 + X.length))] 78) := by rw [hZ, List.getElem?_append_left (hget_of hY1)]; exact hY1
      have hZX : ∃ W, NoLoop W ∧ Z = X ++ W := ⟨wtO (L1 + 1 + X.length) x ++ [.row [wtV (L1 + 1 + X.length + 1)] 57], NoLoop.app (NoLoop.wtO _ _) (fun ob ho st pe li e => by rw [List.mem_singleton] at ho; subst ho; cases e), by rw [hZ, hY, List.append_assoc]⟩
      rw [wtV] at hZ
      rw [← hZ]
      have cI := fun v lo => idxLL_calls Γ (setsF g) (fun s => apartF s x) 39 [] [.ptr (some (L1 + 1 + Y.length, 0))] (K v (.bool false) (.int .i64 0) lo Z) (by omega)
        (fun s hs => safe1_calls Γ s x (L1 + 1 + Y.length) (L1 + 1 + X.length + 1) (L1 + 1 + X.length) _ (by have := hsl s hs; omega) (by rw [KX]; exact hZg) (by rw [Nat.add_assoc, KX]; exact hZ1) (by rw [KX]; exact hZ0))
      obtain ⟨W, hW, hZX⟩ := hZX
      have hkZ : ∀ v, Kept (L1 + 1) (K v (.bool false) (.int .i64 0) (.loop .ready none li) X) (K v (.bool false) (.int .i64 0) (.loop .ready none li) Z) := fun v => by rw [hZX, ← KA]; exact .app _ _ hW
      refine ACalls.then (cI _ _) ?_
      rintro v _ ⟨rfl, hv⟩
      rcases hv with ⟨hf, rfl⟩ | ⟨a, s, rs, hse, hf, rfl⟩
      · simp (disch := omega) only [go_sem, seval, Ka, Kb, Kc, Sa, Sb, Sc, KL, SL]
        exact ⟨KK _ _ _ _ _ _ _ _ _ _ _ _ (hkZ _), .inr ⟨don, x, r, Z, hdx, hf, rfl⟩⟩
      · have e1 : (encII (setsF g))[a.length]? = some (.sl (encI s) .free) := by rw [hse]; simp [encII]
        have hal : a.length < (setsF g).length := by rw [hse]; simp
        simp (disch := omega) only [go_sem, seval, Ka, Kl, encII_len]
        refine aIf.neg (by omega) ?_
        simp (disch := omega) only [go_sem, seval, Ka, Kl, encII_len, e1]
        rw [KN (.sl (encII out) own) _ _ _ Z]
        refine aAp_ar (own := own) ?_ rfl (rowsOK_II _) (rowsOK_II [s]) (by simp [encII_len]; omega) (by simp [encII_len]; omega) fun j' own' ho' hst => ?_
        · rw [encII_len, hZX]
          exact (OwnAt.len k2 (by rw [Klen, Klen])).app W
        rw [show encII out ++ [.sl (encI s) .free] = encII (out ++ [s]) from by simp [encII]]
        rw [← KN]
        simp (disch := omega) only [go_sem, seval, Ka, Sa, KL, SL]
        refine ⟨KK _ _ _ _ _ _ _ _ _ _ _ _ ((hkZ _).trans ?_), .inl ⟨out ++ [s], own', j', safe_snoc k1 hf, ?_, rfl⟩⟩
        · rw [KN _ _ _ _ Z, KN _ _ _ _ j']; exact hst.kept _ _
        · refine OwnAt.len (K := K (.sl (encII out) own) (.bool false) (.int .i64 0) (.loop .busy none li) []) ?_ (by rw [Klen, Klen])
          simpa [encII_len] using ho'
  rw [← hB0l] at C
  refine (great1_calls Γ g (pplF g) most B0.length (B0.length + 1) _ _ C hs hk.c hn hm _ (by rw [Klen, hB0l]; omega) ⟨[], .full, [], rfl, trivial, rfl⟩).mono ?_
  rintro v h' ⟨q1, q2⟩
  rcases q2 with ⟨out, own, X, q2, q3, rfl⟩ | ⟨don, x, r, X, q2, q3, rfl⟩
  · refine rangeN_post (li0 := li) (by rw [hB0l]; exact KL ..) (by rw [hH0]; exact q1.old) (by simp) ?_
    rw [afterLoop_none, hB0l, SL]
    simp (disch := omega) only [go_sem, seval]
    refine AWP.keep [4, 5, 6] (aCode_ok Ty.mixed _ _ _ _ (by kernel_rfl) ?_)
    simp (disch := omega) only [go_sem, seval, Ka, Kb, Kc, Sa, Sb, Sc]
    rw [show safeF (setsF g) (greatF g most) = some out from q2]
    exact ⟨KD .., rfl⟩
  · refine rangeN_post (li0 := li) (by rw [hB0l]; exact KL ..) (by rw [hH0]; exact q1.old) (by simp) ?_
    rw [hB0l, SL]
    refine afterLoop_some Ty.mixed (by kernel_rfl) ?_
    simp (disch := omega) only [go_sem, seval, Ka, Kb, Kc]
    rw [show greatF g most = don ++ x :: r from q2, safe_stop q3]
    exact ⟨KD .., rfl⟩
end Go.Proofs.YtlgamlamolfnlaaGreat

/- The program's Accepts. No conditions. -/
set_option linter.unusedSimpArgs false
set_option linter.unusedVariables false
namespace Go.Proofs.YtlgamlamolfnlaaGreat
open Go Go.Proofs Go.Abs

theorem acc_app {g : Gt} : ∀ {don os l s : List (List Int)}, os.length = don.length → accF g (don ++ l) (os ++ s) = (accF g don os && accF g l s)
  | [], [], l, s, _ => by simp [accF]
  | [], _ :: _, _, _, h => by simp at h
  | _ :: _, [], _, _, h => by simp at h
  | c :: d, o :: os, l, s, h => by
    rw [List.cons_append, List.cons_append, accF, accF, acc_app (by simpa using h), Bool.and_assoc]
/-- What the program's loop over a list asks. -/
def ackF (x P : List Int) : Int → List Int → Bool
  | _, [] => true
  | b, n :: r => decide (b < n) && !decide (n ∈ x) && decide (n ∈ P) && ackF x P n r
theorem ack_iff (x P : List Int) : ∀ (o : List Int) (b : Int), ackF x P b o = true ↔ ((b :: o).Pairwise (· < ·) ∧ (∀ n ∈ o, n ∈ P) ∧ ∀ n ∈ o, n ∉ x)
  | [], b => by simp [ackF]
  | n :: r, b => by
    rw [ackF, Bool.and_eq_true, Bool.and_eq_true, Bool.and_eq_true, ack_iff x P r n]
    simp only [decide_eq_true_eq, Bool.not_eq_true', decide_eq_false_iff_not, List.pairwise_cons, List.mem_cons, forall_eq_or_imp]
    constructor
    · rintro ⟨⟨⟨h1, h2⟩, h3⟩, ⟨h4, h5⟩, h6, h7⟩
      exact ⟨⟨⟨h1, fun m hm => Int.lt_trans h1 (h4 m hm)⟩, h4, h5⟩, ⟨h3, h6⟩, h2, h7⟩
    · rintro ⟨⟨⟨h1, _⟩, h4, h5⟩, ⟨h3, h6⟩, h2, h7⟩
      exact ⟨⟨⟨h1, h2⟩, h3⟩, ⟨h4, h5⟩, h6, h7⟩
theorem ack_ok {g : Gt} (h : checkF g = 0) (x o : List Int) : okO g x o = (ackF x (pplF g) (-1) o && permF g o) := by
  have hpos : ∀ n ∈ pplF g, -1 < n := fun n hn => (((ascF_iff _ _).1 (asc_ppl (checkF_right h))).2 n hn).1
  rw [okO]
  congr 1
  rw [Bool.eq_iff_iff, ack_iff, Bool.and_eq_true, Bool.and_eq_true, incF_iff, List.pairwise_cons]
  simp only [decide_eq_true_eq, apartF]
  constructor
  · rintro ⟨⟨h1, h2⟩, h3⟩; exact ⟨⟨fun n hn => hpos n (h2 n hn), h1⟩, h2, h3⟩
  · rintro ⟨⟨_, h1⟩, h2, h3⟩; exact ⟨⟨h1, h2⟩, h3⟩
def encAc (r : Bool × Int) : AV := .tuple [.bool r.1, .int .i64 r.2]
/-- Accepts' heap. -/
def acK (h : AH) (G ot lc : AObj) (a b c : AV) (lo : AObj) (X : AH) : AH := h ++ ([G, ot, .row [a] 4, .row [b] 28, lc, .row [c] 3, lo] ++ X)
section
variable {h : AH} {G ot lc : AObj} {a b c : AV} {lo : AObj} {X : AH}
theorem ac_len : (acK h G ot lc a b c lo X).length = h.length + 7 + X.length := by simp [acK]; omega
theorem ac_G : (acK h G ot lc a b c lo X)[h.length]? = some G := by simp [acK]
theorem ac_o : (acK h G ot lc a b c lo X)[h.length + 1]? = some ot := by simp [acK]
theorem ac_l : (acK h G ot lc a b c lo X)[h.length + 4]? = some lc := by simp [acK]
theorem ac_L : (acK h G ot lc a b c lo X)[h.length + 6]? = some lo := by simp [acK]
theorem ac_X (q : Nat) : (acK h G ot lc a b c lo X)[h.length + 7 + q]? = X[q]? := by
  rw [acK, Nat.add_assoc, hget_add, List.getElem?_append_right (by simp)]
  congr 1; simp
theorem ac_a (x : AV) : (acK h G ot lc a b c lo X).set (h.length + 2) (.row [x] 4) = acK h G ot lc x b c lo X := by rw [acK, hset_add]; rfl
theorem ac_b (x : AV) : (acK h G ot lc a b c lo X).set (h.length + 3) (.row [x] 28) = acK h G ot lc a x c lo X := by rw [acK, hset_add]; rfl
theorem ac_c (x : AV) : (acK h G ot lc a b c lo X).set (h.length + 5) (.row [x] 3) = acK h G ot lc a b x lo X := by rw [acK, hset_add]; rfl
theorem ac_set (x : AObj) : (acK h G ot lc a b c lo X).set (h.length + 6) x = acK h G ot lc a b c x X := by rw [acK, hset_add]; rfl
theorem ac_ga : (acK h G ot lc a b c lo X)[h.length + 2]? = some (.row [a] 4) := by simp [acK]
theorem ac_gb : (acK h G ot lc a b c lo X)[h.length + 3]? = some (.row [b] 28) := by simp [acK]
theorem ac_gc : (acK h G ot lc a b c lo X)[h.length + 5]? = some (.row [c] 3) := by simp [acK]
theorem ac_app (Y : AH) : acK h G ot lc a b c lo X ++ Y = acK h G ot lc a b c lo (X ++ Y) := by simp [acK]
end
set_option maxHeartbeats 1600000 in
set_option maxRecDepth 100000 in
theorem accepts_calls (Γ : Nat → Option (List AV)) (g : Gt) (most : Int) (others : List (List Int)) (h : AH) (hs : Sh g) (hol : others.length ≤ 9223372036854775807) (hoo : ∀ o ∈ others, o.length ≤ 9223372036854775807) :
    ACalls Tryz.prog Γ 15 [encG g, .int .i64 most, .sl (encII others) .free] h fun v h' => h' = h ∧ v = encAc (accR g most others) := by
  cases g with | mk p n gl =>
  obtain ⟨g, hg⟩ : ∃ g, g = Gt.mk p n gl := ⟨_, rfl⟩
  have eG : encG g = .agg [.int .i64 p, .int .i64 n, .sl (gl.map encG) .free] := by rw [hg, encG_mk]
  rw [← hg] at hs ⊢
  have c0 := fun h => check26_calls Γ g most h hs
  rw [eG] at c0
  rw [eG]
  refine ACalls.dropL ?_
  refine acalls_code (rs := [.cell 6 4, .cell 7 28]) Tryz.func15 rfl rfl rfl rfl Ty.mixed (by kernel_rfl) ?_
  simp (disch := omega) only [go_sem, seval]
  refine ACalls.det (c0 _) ?_
  simp (disch := omega) only [go_sem, seval]
  refine aIf.intro (fun herr => ?_) (fun herr => ?_) <;> simp (disch := omega) only [go_sem, seval]
  rotate_left
  · rw [accR, if_neg herr]
    rfl
  rw [accR, if_pos herr]
  have hk := errL_ok herr
  have hm := hk.m
  have c1 := fun h => people26_calls Γ g h hs hk.c hk.n
  have c2 := fun h => great_calls Γ g (pplF g) most h
  have c3 := fun x hx h => holds26_calls Γ g x h hs hk.c hx
  rw [eG] at c1 c2 c3
  have hn := hk.n
  refine ACalls.det (c1 _) ?_
  simp (disch := omega) only [go_sem, seval]
  refine ACalls.det (c2 _) ?_
  simp (disch := omega) only [go_sem, seval]
  refine AWP.keep [3, 5, 6, 7, 10, 11, 31] ?_
  simp (disch := omega) only [go_sem, seval]
  refine awp_rangeFuncNL rfl (fun li hli => ?_)
  have hP := ppl_lt hk.c
  have hgl : (greatF g most).length ≤ 4096 := by
    have h1 := choose_pow (pplF g) (topF g most)
    have h2 : 2 ^ (pplF g).length ≤ 2 ^ 12 := Nat.pow_le_pow_right (by decide) hn
    have h3 := List.length_filter_le (permF g) (chooseF (pplF g) (topF g most))
    rw [greatF]; omega
  obtain ⟨L1, hL1⟩ : ∃ L1, L1 = h.length + 6 := ⟨_, rfl⟩
  obtain ⟨K, hK⟩ : ∃ K : AV → AV → AV → AObj → AH → AH, K = acK h (.row [.int .i64 p, .int .i64 n, .sl (gl.map encG) .free] 24) (.row [.sl (encII others) .free] 33) (.row [.sl (encI (pplF g)) .free] 27) := ⟨_, rfl⟩
  have Klen : ∀ a b c lo X, (K a b c lo X).length = L1 + 1 + X.length := fun a b c lo X => by rw [hK, ac_len, hL1]
  have Kg : ∀ a b c lo X, (K a b c lo X)[h.length]? = some (.row [.int .i64 p, .int .i64 n, .sl (gl.map encG) .free] 24) := fun a b c lo X => by rw [hK, ac_G]
  have Ko : ∀ a b c lo X, (K a b c lo X)[h.length + 1]? = some (.row [.sl (encII others) .free] 33) := fun a b c lo X => by rw [hK, ac_o]
  have Kl : ∀ a b c lo X, (K a b c lo X)[h.length + 4]? = some (.row [.sl (encI (pplF g)) .free] 27) := fun a b c lo X => by rw [hK, ac_l]
  have KL : ∀ a b c lo X, (K a b c lo X)[L1]? = some lo := fun a b c lo X => by rw [hK, hL1, ac_L]
  have KX : ∀ a b c lo X q, (K a b c lo X)[L1 + 1 + q]? = X[q]? := fun a b c lo X q => by rw [hK, hL1, ac_X]
  have Ka : ∀ a b c lo X, (K a b c lo X)[h.length + 2]? = some (.row [a] 4) := fun a b c lo X => by rw [hK, ac_ga]
  have Kb : ∀ a b c lo X, (K a b c lo X)[h.length + 3]? = some (.row [b] 28) := fun a b c lo X => by rw [hK, ac_gb]
  have Kc : ∀ a b c lo X, (K a b c lo X)[h.length + 5]? = some (.row [c] 3) := fun a b c lo X => by rw [hK, ac_gc]
  have Sa : ∀ a b c lo X x, (K a b c lo X).set (h.length + 2) (.row [x] 4) = K x b c lo X := fun a b c lo X x => by rw [hK, ac_a]
  have Sb : ∀ a b c lo X x, (K a b c lo X).set (h.length + 3) (.row [x] 28) = K a x c lo X := fun a b c lo X x => by rw [hK, ac_b]
  have Sc : ∀ a b c lo X x, (K a b c lo X).set (h.length + 5) (.row [x] 3) = K a b x lo X := fun a b c lo X x => by rw [hK, ac_c]
  have SL : ∀ a b c lo X x, (K a b c lo X).set L1 x = K a b c x X := fun a b c lo X x => by rw [hK, hL1, ac_set]
  have KA : ∀ a b c lo X Y, K a b c lo X ++ Y = K a b c lo (X ++ Y) := fun a b c lo X Y => by rw [hK, ac_app]
  have KN : ∀ a b c lo X, K a b c lo X = K a b c lo [] ++ X := fun a b c lo X => by rw [KA, List.nil_append]
  have KD : ∀ a b c lo X, ∃ l, K a b c lo X = h ++ l := fun a b c lo X => by rw [hK]; exact ⟨_, rfl⟩
  obtain ⟨B0, hB0⟩ : ∃ B0 : AH, B0 = h ++ [.row [.int .i64 p, .int .i64 n, .sl (gl.map encG) .free] 24, .row [.sl (encII others) .free] 33, .row [.bool false] 4, .row [.int .i64 0] 28, .row [.sl (encI (pplF g)) .free] 27, .row [.int .i64 0] 3] := ⟨_, rfl⟩
  rw [← hB0]
  have hB0l : B0.length = L1 := by rw [hB0, hL1]; simp
  have hH0 : B0 ++ [.loop .ready none li] = K (.bool false) (.int .i64 0) (.int .i64 0) (.loop .ready none li) [] := by rw [hB0, hK]; simp [acK]
  rw [hH0]
  have KK : ∀ a b c a' b' c' s p s' p' X Y, NoLoop Y → Kept (L1 + 1) (K a b c (.loop s p li) X) (K a' b' c' (.loop s' p' li) (X ++ Y)) := fun a b c a' b' c' s p s' p' X Y hY => by
    have q := ((((Kept.app (L1 + 1) (K a b c (.loop s p li) X) hY).setRow (i := h.length + 2) (cs := [a']) (T := 4) (by omega)).setRow (i := h.length + 3) (cs := [b']) (T := 28) (by omega)).setRow (i := h.length + 5) (cs := [c']) (T := 3) (by omega)).setB (i := L1) (s := s') (p := p') (li := li) (by omega) (KL ..)
    rwa [KA, Sa, Sb, Sc, SL] at q
  have KK0 : ∀ a b c a' b' c' s p s' p' X, Kept (L1 + 1) (K a b c (.loop s p li) X) (K a' b' c' (.loop s' p' li) X) := fun a b c a' b' c' s p s' p' X => by
    have := KK a b c a' b' c' s p s' p' X [] NoLoop.nil
    rwa [List.append_nil] at this
  have C : Consumer Tryz.prog Γ (Fra (L1 + 1)) L1 (L1 + 1) encL1 (greatF g most) (fun don hx => ∃ os s X, others = os ++ s ∧ os.length = don.length ∧ accF g don os = true ∧ hx = K (.bool false) (.int .i64 0) (.int .i64 don.length) (.loop .ready none li) X)
      (fun hx => accF g (greatF g most) others = false ∧ ∃ c X, hx = K (.bool false) (.int .i64 0) c (.loop .done (some .ret) li) X) := by
    refine ⟨?_, ?_, ?_⟩
    · rintro don h1 h2 ⟨os, s, X, k1, k2, k3, rfl⟩ hf
      rw [KN] at hf
      rw [show L1 + 1 = (K (.bool false) (.int .i64 0) (.int .i64 don.length) (.loop .ready none li) []).length from by rw [Klen]; rfl] at hf
      obtain ⟨Y, rfl, _, hY⟩ := hf.split
      exact ⟨os, s, Y, k1, k2, k3, by rw [← KN]⟩
    · rintro h1 h2 ⟨k1, c, X, rfl⟩ hf
      rw [KN] at hf
      rw [show L1 + 1 = (K (.bool false) (.int .i64 0) c (.loop .done (some .ret) li) []).length from by rw [Klen]; rfl] at hf
      obtain ⟨Y, rfl, _, _⟩ := hf.split
      exact ⟨k1, c, Y, by rw [← KN]⟩
    · rintro don x r h1 hdx hb1 ⟨os, s, X, k1, k2, k3, rfl⟩
      have hxl : x.length ≤ 12 := by
        have : x ∈ greatF g most := by rw [hdx]; simp
        rw [greatF] at this
        have := choose_mem _ _ x (List.mem_filter.1 this).1
        have h2 : topF g most ≤ (pplF g).length := Nat.min_le_right _ _
        omega
      have hdl : don.length ≤ 4096 := by
        have := congrArg List.length hdx
        simp at this; omega
      have holn : others.length = don.length + s.length := by rw [k1]; simp [k2]
      rw [encL1]
      refine ayield_W hli (KL ..) rfl rfl Ty.mixed (by kernel_rfl) ?_
      simp (disch := omega) only [go_sem, seval, KL, SL]
      refine aCode_ok Ty.mixed _ _ _ _ (by kernel_rfl) ?_
      simp (disch := omega) only [go_sem, seval, Ko, Kc, encII_len]
      cases s with
      | nil =>
        refine aIf.pos (by rw [holn]; simp) ?_
        simp (disch := omega) only [go_sem, seval, Ka, Kb, Sa, Sb, KL, SL]
        refine ⟨KK0 .., .inr ⟨?_, _, X, rfl⟩⟩
        rw [hdx, k1, acc_app k2]; simp [accF]
      | cons o s =>
      have hsl : (o :: s).length = s.length + 1 := rfl
      refine aIf.neg (by rw [holn]; omega) ?_
      simp (disch := omega) only [go_sem, seval, Ka, Kb, Sa, Sb, KL, SL]
      obtain ⟨Y, hY⟩ : ∃ Y, Y = X ++ wtO (L1 + 1 + X.length) x := ⟨_, rfl⟩
      have hYl : Y.length = X.length + 2 := by rw [hY]; simp [wtO]
      have hY0 : Y[X.length]? = some (mapO (wkF [] x)) := by rw [hY]; simp [wtO]
      have hY1 : Y[X.length + 1]? = some (.row [.map (some (L1 + 1 + X.length))] 78) := by rw [hY]; simp [wtO]
      have cC := fun lo => without26_calls Γ x (K (.bool false) (.int .i64 0) (.int .i64 don.length) lo X) (by omega)
      simp only [KA, Klen, ← hY] at cC
      obtain ⟨cw, hcw⟩ : ∃ cw, cw = L1 + 1 + (X.length + 1) := ⟨_, rfl⟩
      rw [show L1 + 1 + X.length + 1 = cw from by omega] at cC
      have cF := fun y lo => free_calls Γ y (wkF [] x) cw (L1 + 1 + X.length) (K (.bool false) (.int .i64 0) (.int .i64 don.length) lo Y) (by rw [hcw, KX]; exact hY1) (by rw [KX]; exact hY0)
      have hwk : ∀ y, (y ∈ wkF [] x) = (y ∈ x) := fun y => by rw [mem_wkF]; simp
      simp only [hwk] at cF
      have hkY : ∀ c s' p', Kept (L1 + 1) (K (.bool false) (.int .i64 0) (.int .i64 don.length) (.loop .ready none li) X) (K (.bool false) (.int .i64 0) c (.loop s' p' li) Y) := fun c s' p' => by
        rw [hY]; exact KK _ _ _ _ _ _ _ _ _ _ _ _ (NoLoop.wtO _ _)
      have hon : o.length ≤ 9223372036854775807 := hoo o (by rw [k1]; simp)
      have e1 : (encII others)[don.length]? = some (.sl (encI o) .free) := by rw [k1, ← k2]; simp [encII]
      have hnot : okO g x o = false → accF g (greatF g most) others = false := fun he => by
        rw [hdx, k1, acc_app k2, accF, he]; simp
      have hok := ack_ok hk.c x o
      refine ACalls.detH (cC _) ?_
      simp (disch := omega) only [go_sem, seval, Ko, Kc, encII_len, e1, encI_len]
      refine awp_loopL (β := Int) o [3, 5, 6, 7, 10, 11, 13, 14, 42, 43, 44] (fun dn b => [(3, .ptr (some (h.length, 0))), (5, .ptr (some (h.length + 1, 0))), (6, .ptr (some (h.length + 2, 0))), (7, .ptr (some (h.length + 3, 0))), (10, .ptr (some (h.length + 4, 0))), (11, .ptr (some (h.length + 5, 0))), (13, wtV cw), (14, .int .i64 b), (42, .sl (encI o) .free), (43, .int .i64 o.length), (44, .int .i64 dn.length)])
        (fun _ => K (.bool false) (.int .i64 0) (.int .i64 don.length) (.loop .busy none li) Y) (fun dn rest b => ackF x (pplF g) (-1) o = ackF x (pplF g) b rest) (-1) ?_ rfl rfl Ty.mixed (by kernel_rfl) ?_ ?_
      · simp (disch := omega) only [go_sem, seval]
      · rintro dn y rs b ho hb
        have hl3 : dn.length + 1 + rs.length = o.length := by rw [ho]; simp; omega
        have e2 : (encI o)[dn.length]? = some (.int .i64 y) := by rw [ho]; simp [encI]
        simp (disch := omega) only [go_sem, seval, encI_len]
        refine aIf.pos (by omega) ?_
        simp (disch := omega) only [go_sem, seval, encI_len, e2]
        have hfail : (∀ q, ackF x (pplF g) b (y :: rs) = q → q = false) → accF g (greatF g most) others = false := fun hq => hnot (by rw [hok, hb, hq _ rfl, Bool.false_and])
        refine aIf.intro (fun h1 => ?_) (fun h1 => ?_) <;> simp (disch := omega) only [go_sem, seval]
        · simp (disch := omega) only [go_sem, seval, Ka, Kb, Sa, Sb, KL, SL]
          exact ⟨hkY _ _ _, .inr ⟨hfail (by rintro _ rfl; rw [ackF, decide_eq_false (by omega)]; rfl), _, Y, rfl⟩⟩
        simp (disch := omega) only [go_sem, seval, wtV]
        refine ACalls.det (cF y _) ?_
        simp (disch := omega) only [go_sem, seval]
        refine aIf.intro (fun h2 => ?_) (fun h2 => ?_) <;> simp (disch := omega) only [go_sem, seval]
        · simp (disch := omega) only [go_sem, seval, Ka, Kb, Sa, Sb, KL, SL]
          exact ⟨hkY _ _ _, .inr ⟨hfail (by rintro _ rfl; rw [ackF, decide_eq_true h2]; simp), _, Y, rfl⟩⟩
        simp (disch := omega) only [go_sem, seval, Kl]
        refine ACalls.det (contains_calls_I Γ (pplF g) y _ (by omega)) ?_
        simp (disch := omega) only [go_sem, seval]
        refine aIf.intro (fun h3 => ?_) (fun h3 => ?_) <;> simp (disch := omega) only [go_sem, seval]
        rotate_left
        · simp (disch := omega) only [go_sem, seval, Ka, Kb, Sa, Sb, KL, SL]
          exact ⟨hkY _ _ _, .inr ⟨hfail (by rintro _ rfl; rw [ackF, decide_eq_false h3]; simp), _, Y, rfl⟩⟩
        refine roundL_next y ?_ ?_ rfl
        · rw [hb, ackF, decide_eq_true (show b < y by omega), decide_eq_false h2, decide_eq_true h3]; rfl
        · simp (disch := omega) only [go_sem, seval, List.length_append, wtV]
      · intro b hb
        simp (disch := omega) only [go_sem, seval, encI_len]
        refine AWP.keep [3, 5, 6, 7, 11] (aCode_ok Ty.mixed _ _ _ _ (by kernel_rfl) ?_)
        simp (disch := omega) only [go_sem, seval, Kg, Ko, Kc, encII_len, e1]
        refine aCallF.intro (fun _ => c3 o hon _) ?_
        simp (disch := omega) only [go_sem, seval]
        rw [hb, ackF, Bool.true_and] at hok
        cases hp : permF g o with
        | false =>
          simp (disch := omega) only [go_sem, seval, Ka, Kb, Sa, Sb, KL, SL]
          exact ⟨hkY _ _ _, .inr ⟨hnot (by rw [hok, hp]), _, Y, rfl⟩⟩
        | true =>
          have hiw : IntKind.i64.wrap ((don.length : Int) + 1) = ((don ++ [x]).length : Int) := by
            rw [IntWalk.i64_in _ ⟨by omega, by omega⟩]; simp
          simp (disch := omega) only [go_sem, seval, Kc, hiw, Sc, KL, SL]
          refine ⟨hkY _ _ _, .inl ⟨os ++ [o], s, Y, by rw [k1]; simp, by simp [k2], ?_, rfl⟩⟩
          rw [acc_app k2, k3, accF, hok, hp]; rfl
  rw [← hB0l] at C
  refine (great1_calls Γ g (pplF g) most B0.length (B0.length + 1) _ _ C hs hk.c hn hm _ (by rw [Klen, hB0l]; omega) ⟨[], others, [], rfl, rfl, rfl, rfl⟩).mono ?_
  rintro v h' ⟨q1, q2⟩
  rcases q2 with ⟨os, s, X, q2, q3, q4, rfl⟩ | ⟨q2, c, X, rfl⟩
  · refine rangeN_post (li0 := li) (by rw [hB0l]; exact KL ..) (by rw [hH0]; exact q1.old) (by simp) ?_
    rw [afterLoop_none, hB0l, SL]
    simp (disch := omega) only [go_sem, seval]
    refine AWP.keep [5, 6, 7, 11] (aCode_ok Ty.mixed _ _ _ _ (by kernel_rfl) ?_)
    simp (disch := omega) only [go_sem, seval, Ka, Kb, Kc, Ko, Sa, Sb, Sc, encII_len]
    refine ⟨KD .., ?_⟩
    have hac : accF g (greatF g most) others = decide ((greatF g most).length = others.length) := by
      have h1 := acc_app (g := g) (don := greatF g most) (os := os) (l := []) (s := s) q3
      rw [List.append_nil] at h1
      rw [q2, h1, show accF g (greatF g most) os = true from q4, Bool.true_and]
      have hq3 : os.length = (greatF g most).length := q3
      cases s with
      | nil => rw [accF]; simp [hq3]
      | cons o s =>
        rw [accF]
        · exact (decide_eq_false (by simp; omega)).symm
        all_goals simp
    rw [hac]
    exact congrArg (fun b => AV.tuple [.bool b, .int .i64 0]) (decide_eq_decide.2 (by rw [greatF, topF]; omega))
  · refine rangeN_post (li0 := li) (by rw [hB0l]; exact KL ..) (by rw [hH0]; exact q1.old) (by simp) ?_
    rw [hB0l, SL]
    refine afterLoop_some Ty.mixed (by kernel_rfl) ?_
    simp (disch := omega) only [go_sem, seval, Ka, Kb, Kc]
    rw [q2]
    exact ⟨KD .., rfl⟩
end Go.Proofs.YtlgamlamolfnlaaGreat
