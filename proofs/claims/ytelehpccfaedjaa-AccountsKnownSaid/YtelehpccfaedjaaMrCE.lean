/- Texts joined: AccU, AccV, AccW. No conditions. -/
import Derived.Test.YtelehpccfaedjaaMrCD
/- The program's Over. No conditions. -/
set_option linter.unusedSimpArgs false
set_option linter.unusedVariables false
namespace Go.Proofs.Ytelehpccfaedjaa
open Go Go.Proofs Go.Abs

/-- The numbers of what is overspent, as they are met. -/
def badB (l : List Bg) (u : List Us) (known : Int) (x : Us) (ks : List Int) (ys : List Bg) : List Int := ys.foldl (fun ks y => if fineF y (spentF y u x.at_ known) then ks else addK y.no ks) ks
def badU (l : List Bg) (u : List Us) (known : Int) (us : List Us) (ks : List Int) : List Int := us.foldl (fun ks x => if x.known ≤ known then badB l u known x ks (standF l x.kind x.at_ known) else ks) ks
theorem badB_snoc (l : List Bg) (u : List Us) (known : Int) (x : Us) (ks : List Int) (ys : List Bg) (y : Bg) : badB l u known x ks (ys ++ [y]) = if fineF y (spentF y u x.at_ known) then badB l u known x ks ys else addK y.no (badB l u known x ks ys) := by
  rw [badB, List.foldl_append]; rfl
theorem badU_snoc (l : List Bg) (u : List Us) (known : Int) (us : List Us) (x : Us) (ks : List Int) : badU l u known (us ++ [x]) ks = if x.known ≤ known then badB l u known x (badU l u known us ks) (standF l x.kind x.at_ known) else badU l u known us ks := by
  rw [badU, List.foldl_append]; rfl
theorem badB_mem (l : List Bg) (u : List Us) (known : Int) (x : Us) : ∀ (ys : List Bg) (ks : List Int) (n : Int), n ∈ badB l u known x ks ys ↔ n ∈ ks ∨ ∃ y ∈ ys, y.no = n ∧ fineF y (spentF y u x.at_ known) = false
  | [], ks, n => by simp [badB]
  | y :: ys, ks, n => by
    have ih := fun ks => badB_mem l u known x ys ks n
    simp only [badB] at ih ⊢
    rw [List.foldl_cons, ih]
    cases hf : fineF y (spentF y u x.at_ known) with
    | true => simp [hf]
    | false =>
      simp only [if_neg (show ¬ (false = true) by simp), mem_addK, List.mem_cons, exists_eq_or_imp, hf, and_true]
      constructor
      · rintro ((h | h) | h)
        · exact .inl h
        · exact .inr (.inl h.symm)
        · exact .inr (.inr h)
      · rintro (h | h | h)
        · exact .inl (.inl h)
        · exact .inl (.inr h.symm)
        · exact .inr h
theorem badU_mem (l : List Bg) (u : List Us) (known : Int) : ∀ (us : List Us) (ks : List Int) (n : Int), n ∈ badU l u known us ks ↔ n ∈ ks ∨ ∃ x ∈ us, x.known ≤ known ∧ ∃ y ∈ standF l x.kind x.at_ known, y.no = n ∧ fineF y (spentF y u x.at_ known) = false
  | [], ks, n => by simp [badU]
  | x :: us, ks, n => by
    have ih := fun ks => badU_mem l u known us ks n
    simp only [badU] at ih ⊢
    rw [List.foldl_cons, ih]
    by_cases hk : x.known ≤ known
    · rw [if_pos hk, badB_mem]
      simp only [List.mem_cons, exists_eq_or_imp, hk, true_and, or_assoc]
    · rw [if_neg hk]
      simp [hk]
theorem badB_nodup (l : List Bg) (u : List Us) (known : Int) (x : Us) : ∀ (ys : List Bg) (ks : List Int), ks.Nodup → (badB l u known x ks ys).Nodup
  | [], ks, h => h
  | y :: ys, ks, h => by
    have ih := fun ks => badB_nodup l u known x ys ks
    simp only [badB] at ih ⊢
    rw [List.foldl_cons]
    refine ih _ ?_
    split
    · exact h
    · exact addK_nodup h _
theorem badU_nodup (l : List Bg) (u : List Us) (known : Int) : ∀ (us : List Us) (ks : List Int), ks.Nodup → (badU l u known us ks).Nodup
  | [], ks, h => h
  | x :: us, ks, h => by
    have ih := fun ks => badU_nodup l u known us ks
    simp only [badU] at ih ⊢
    rw [List.foldl_cons]
    refine ih _ ?_
    split
    · exact badB_nodup _ _ _ _ _ _ h
    · exact h
theorem badU_over {l : List Bg} {u : List Us} {known : Int} (hp : l.Pairwise fun x y => x.no < y.no) : sortI (badU l u known u []) = overF l u known := by
  refine sorted_eq (sortI_lt (badU_nodup l u known u [] .nil)) (overF_sorted hp u known) fun n => ?_
  rw [(sortI_perm _).mem_iff, badU_mem, mem_overF hp]
  simp
theorem nodupI_le : ∀ (a l : List Int), a.Nodup → (∀ b ∈ a, b ∈ l) → a.length ≤ l.length
  | [], l, _, _ => by simp
  | x :: a, l, h, hm => by
    rw [List.nodup_cons] at h
    have hx := hm x (by simp)
    have := nodupI_le a (l.erase x) h.2 fun b hb => (List.mem_erase_of_ne (fun e => by subst e; exact h.1 hb)).2 (hm b (by simp [hb]))
    rw [List.length_erase_of_mem hx] at this
    have := List.length_pos_of_mem hx
    simp; omega
theorem badU_len (l : List Bg) (u : List Us) (known : Int) : (badU l u known u []).length ≤ l.length := by
  have := nodupI_le _ (l.map fun b => b.no) (badU_nodup l u known u [] .nil) fun n hn => by
    rcases (badU_mem l u known u [] n).1 hn with h | ⟨x, _, _, y, hy, rfl, _⟩
    · simp at h
    · exact List.mem_map.2 ⟨y, (mem_standF.1 hy).1, rfl⟩
  simpa using this
set_option maxHeartbeats 2000000 in
set_option maxRecDepth 100000 in
theorem pOver_calls (Γ : Nat → Option (List AV)) (l : List Bg) (u : List Us) (known : Int) (h : AH) (hl : l.length ≤ 100000) (hu : u.length ≤ 100000) :
    ACalls Try.prog Γ 17 [.sl (encBs l) .free, .sl (encUs u) .free, .int .i64 known] h fun v h' => h' = h ∧ v = .tuple [.sl (encI (overR l u known).1) .free, .int .i64 (overR l u known).2] := by
  have c1 := fun h => pexamine_calls Γ l u h (by omega) (by omega)
  have c2 := fun o h => pwithin1 Γ 1099511627776 known o h
  have ht : inR known 0 (1099511627776 - 1) = timeF known := timeF_in known
  rw [ht] at c2
  rw [overR]
  refine ACalls.dropL ?_
  refine acalls_code (rs := [.tmp 6, .tmp 7]) Try.func17 rfl rfl rfl rfl Ty.mixed (by kernel_rfl) ?_
  simp (disch := omega) only [go_sem, seval]
  refine ACalls.det (c1 _) ?_
  simp (disch := omega) only [go_sem, seval]
  refine aIf.intro (fun h1 => ?_) (fun h1 => ?_) <;> simp (disch := omega) only [go_sem, seval]
  rotate_left
  · rw [if_pos h1]; rfl
  rw [if_neg (by simpa using h1)]
  obtain ⟨k1, k2, k3, k4, k5, k6, k7⟩ := err0 h1
  refine ACalls.det (c2 _ _) ?_
  cases hk : timeF known with
  | false => simp (disch := omega) only [go_sem, seval]; rfl
  | true =>
  simp (disch := omega) only [go_sem, seval, encUs_len]
  obtain ⟨K, hK⟩ : ∃ K : List Int → AH, ∀ ks, K ks = h ++ [.map (entsA tt 0 ks) ks.length] := ⟨_, fun _ => rfl⟩
  have Kl : ∀ ks, (K ks).length = h.length + 1 := fun ks => by rw [hK]; simp
  have Km : ∀ ks (R : AH), (K ks ++ R)[h.length]? = some (.map (entsA tt 0 ks) ks.length) := fun ks R => by rw [hK]; simp
  have Ks : ∀ ks (R : AH) ks', (K ks ++ R).set h.length (.map (entsA tt 0 ks') ks'.length) = K ks' ++ R := fun ks R ks' => by rw [hK, hK]; simp [hset_zero]
  have Kj : ∀ ks (j R : AH), (K ks ++ (j ++ R))[h.length + 1 + j.length]? = R[0]? := by intro ks j R; rw [← Kl ks, hget_add, hget_zero]
  have Sj : ∀ ks (j R : AH) (o : AObj), (K ks ++ (j ++ R)).set (h.length + 1 + j.length) o = K ks ++ (j ++ R.set 0 o) := by intro ks j R o; rw [← Kl ks, hset_add, hset_zero]
  have Kh : ∀ ks (R : AH), ∃ l, K ks ++ R = h ++ l := fun ks R => ⟨_, by rw [hK, List.append_assoc]⟩
  refine awp_loopL (β := AH × List Us) u [0, 1, 2, 9, 29, 30, 31] (fun don _ => [(0, .sl (encBs l) .free), (1, .sl (encUs u) .free), (2, .int .i64 known), (9, .map (some h.length)), (29, .sl (encUs u) .free), (30, .int .i64 u.length), (31, .int .i64 don.length)])
    (fun s => K (badU l u known s.2 []) ++ s.1) (fun don _ s => s.2 = don) ([], []) ?_ (by simp [hK, badU, entsA]) rfl Ty.mixed (by kernel_rfl) ?_ ?_
  · simp (disch := omega) only [go_sem, seval]
  · rintro don x r ⟨jj, don'⟩ hd h0
    simp only at h0
    subst h0
    simp only
    have hlen : u.length = don'.length + 1 + r.length := by rw [hd]; simp; omega
    have e1 : (encUs u)[don'.length]? = some (encU x) := by rw [hd]; exact encUs_get don' r x
    have hrx := k7 x (by rw [hd]; simp)
    have hx := rightU_facts hrx
    have hta : timeF x.at_ = true := by simp only [timeF, show END = 1099511627776 from rfl, Bool.and_eq_true, decide_eq_true_eq]; omega
    have hkx : inR x.kind 0 15 = true := by simp only [inR, Bool.and_eq_true, decide_eq_true_eq]; omega
    have c3 := fun h => pStanding_calls Γ l x.kind x.at_ known h (by omega)
    rw [show standR l x.kind x.at_ known = (standF l x.kind x.at_ known, 0) from by rw [standR, k1, hkx, hta, hk]; rfl] at c3
    have hsn := badU_snoc l u known don' x []
    have hnd := badU_nodup l u known don' [] .nil
    simp only [encU] at e1
    simp (disch := omega) only [go_sem, seval]
    refine aIf.pos (by omega) ?_
    simp (disch := omega) only [go_sem, seval, e1, Kl, Kj, Sj, List.length_append]
    refine aIf.intro (fun h3 => ?_) (fun h3 => ?_) <;> simp (disch := omega) only [go_sem, seval, Kl, Kj, Sj, List.length_append]
    · refine AWP.keep [0, 1, 2, 9, 29, 30, 31] (aCode_ok Ty.mixed _ _ _ _ (by kernel_rfl) ?_)
      simp (disch := omega) only [go_sem, seval]
      refine roundL_next (jj ++ [.row (encU x).cells 42], don' ++ [x]) rfl ?_ ?_
      · simp (disch := omega) only [go_sem, seval, List.length_append]
      · rw [hsn, if_neg (by omega)]; rfl
    rw [if_pos (by omega)] at hsn
    have hst : ∀ y ∈ standF l x.kind x.at_ known, y ∈ l := fun y hy => (mem_standF.1 hy).1
    have hsl : (standF l x.kind x.at_ known).length ≤ l.length := List.length_filter_le _ _
    generalize standF l x.kind x.at_ known = st at *
    generalize hks0 : badU l u known don' [] = ks0 at *
    refine ACalls.det (c3 _) ?_
    simp (disch := omega) only [go_sem, seval, Kl, Kj, Sj, List.length_append]
    have hJ : ∃ jj0, jj0 = jj ++ [AObj.row (encU x).cells 42] := ⟨_, rfl⟩
    obtain ⟨jj0, hjj0⟩ := hJ
    have K11 : ∀ ks (R : AH), (K ks ++ (jj0 ++ R))[h.length + 1 + jj.length]? = some (.row [.int .i64 x.doc, .int .i64 x.kind, .int .i64 x.value, .int .i64 x.at_, .int .i64 x.known] 42) := fun ks R => by
      rw [hjj0, List.append_assoc, Kj]; rfl
    refine awp_loopL (β := AH × List Bg) st [0, 1, 2, 9, 11, 29, 30, 31, 52, 53, 54] (fun d2 _ => [(0, .sl (encBs l) .free), (1, .sl (encUs u) .free), (2, .int .i64 known), (9, .map (some h.length)), (11, .ptr (some (h.length + 1 + jj.length, 0))), (29, .sl (encUs u) .free), (30, .int .i64 u.length), (31, .int .i64 don'.length), (52, .sl (encBs st) .free), (53, .int .i64 st.length), (54, .int .i64 d2.length)])
      (fun s => K (badB l u known x ks0 s.2) ++ (jj0 ++ s.1)) (fun d2 _ s => s.2 = d2) ([], []) ?_ (by rw [hjj0]; simp [badB, encU, AV.cells]) rfl Ty.mixed (by kernel_rfl) ?_ ?_
    · simp (disch := omega) only [go_sem, seval, encBs_len]
    · rintro d2 y r2 ⟨j2, d2'⟩ hd2 h0
      simp only at h0
      subst h0
      simp only
      have hlen2 : st.length = d2'.length + 1 + r2.length := by rw [hd2]; simp; omega
      have e2 : (encBs st)[d2'.length]? = some (encB y) := by rw [hd2]; exact encBs_get d2' r2 y
      have hyl := hst y (by rw [hd2]; simp)
      have c4 := fun h => pspent_calls Γ y u x.at_ known h (k4 y hyl) k7 (by omega) hta
      have hsn2 := badB_snoc l u known x ks0 d2' y
      generalize spentF y u x.at_ known = sp at *
      obtain ⟨s1, s2⟩ := sp
      have c5 := fun h => fine_calls Γ y u known s1 s2 h
      have hnd2 := badB_nodup l u known x d2' ks0 hnd
      generalize badB l u known x ks0 d2' = kb at *
      simp only [encB] at e2
      simp only [bookV, bookC] at c4 c5
      have k1 : ∀ ks (R : AH), (K ks ++ (jj0 ++ (j2 ++ R)))[h.length + 1 + (jj0.length + j2.length)]? = R[0]? := fun ks R => by
        rw [← Kl ks, hget_add, hget_add, hget_zero]
      have k2 : ∀ ks (R : AH) (o : AObj), (K ks ++ (jj0 ++ (j2 ++ R))).set (h.length + 1 + (jj0.length + j2.length)) o = K ks ++ (jj0 ++ (j2 ++ R.set 0 o)) := fun ks R o => by
        rw [← Kl ks, hset_add, hset_add, hset_zero]
      have k3 : ∀ ks (R : AH) (n : Nat), (K ks ++ (jj0 ++ (j2 ++ R)))[h.length + 1 + (jj0.length + (j2.length + n))]? = R[n]? := fun ks R n => by
        rw [← Kl ks, hget_add, hget_add, hget_add]
      have k4' : ∀ ks (R : AH) (n : Nat) (o : AObj), (K ks ++ (jj0 ++ (j2 ++ R))).set (h.length + 1 + (jj0.length + (j2.length + n))) o = K ks ++ (jj0 ++ (j2 ++ R.set n o)) := fun ks R n o => by
        rw [← Kl ks, hset_add, hset_add, hset_add]
      simp (disch := omega) only [go_sem, seval, encBs_len]
      refine aIf.pos (by omega) ?_
      simp (disch := omega) only [go_sem, seval, e2, Kl, K11, k1, k2, k3, k4', List.length_append]
      refine ACalls.det (c4 _) ?_
      simp (disch := omega) only [go_sem, seval]
      refine ACalls.det (c5 _) ?_
      have hp := put_tt y.no kb hnd2
      cases hf : fineF y (s1, s2) with
      | true =>
        simp (disch := omega) only [go_sem, seval]
        refine roundL_next (j2 ++ [.row (encB y).cells 40, .row (bookC y u known) 72], d2' ++ [y]) rfl ?_ ?_
        · simp (disch := omega) only [go_sem, seval, List.length_append]
        · rw [hsn2, hf, if_pos rfl]; rfl
      | false =>
        simp (disch := omega) only [go_sem, seval, Kl, Km, K11, k1, k2, k3, k4', List.length_append, hp, Ks]
        refine roundL_next (j2 ++ [.row (encB y).cells 40, .row (bookC y u known) 72], d2' ++ [y]) rfl ?_ ?_
        · simp (disch := omega) only [go_sem, seval, List.length_append]
        · rw [hsn2, hf, if_neg (by simp)]; rfl
    · rintro ⟨j2, d2'⟩ h0
      simp only at h0
      subst h0
      simp (disch := omega) only [go_sem, seval, encBs_len]
      refine AWP.keep [0, 1, 2, 9, 29, 30, 31] (aCode_ok Ty.mixed _ _ _ _ (by kernel_rfl) ?_)
      simp (disch := omega) only [go_sem, seval]
      refine roundL_next (jj0 ++ j2, don' ++ [x]) rfl ?_ ?_
      · simp (disch := omega) only [go_sem, seval, List.length_append]
      · rw [hsn]
  · rintro ⟨jj, don'⟩ h0
    simp only at h0
    subst h0
    simp (disch := omega) only [go_sem, seval]
    refine AWP.keep [9] (aCode_ok Ty.mixed _ _ _ _ (by kernel_rfl) ?_)
    simp (disch := omega) only [go_sem, seval]
    refine ACalls.then (keysB_calls Γ h.length _) ?_
    rintro _ _ ⟨rfl, rfl⟩
    simp (disch := omega) only [go_sem, seval, Kl]
    refine ACalls.det (sortedB_calls Γ h.length _ tt (badU l don' known don' []) _ ?_ ?_ ?_) ?_
    · exact Km _ _
    · rw [Kj]; rfl
    · have := badU_len l don' known; omega
    simp (disch := omega) only [go_sem, seval]
    rw [badU_over k5]
    exact ⟨Kh _ _, rfl⟩
end Go.Proofs.Ytelehpccfaedjaa

/- The program's History: sums by times, in plain lists. No conditions. -/
set_option linter.unusedSimpArgs false
set_option linter.unusedVariables false
namespace Go.Proofs.Ytelehpccfaedjaa
open Go Go.Proofs Go.Abs

def eqT (t : Int) (x : Us) : Bool := decide (x.at_ = t)
def inT (d : List Int) (x : Us) : Bool := decide (x.at_ ∈ d)
/-- Sums by times. -/
def atF (us : List Us) (t : Int) : Int × Int := sumP (eqT t) us
/-- The times, as they are met. -/
def tsU (us : List Us) : List Int := us.foldl (fun ks x => addK x.at_ ks) []
theorem tsU_snoc (us : List Us) (x : Us) : tsU (us ++ [x]) = addK x.at_ (tsU us) := by rw [tsU, List.foldl_append]; rfl
theorem foldl_addK : ∀ (us : List Us) (ks : List Int), ks.Nodup → (us.foldl (fun ks x => addK x.at_ ks) ks).Nodup ∧ ∀ t, t ∈ us.foldl (fun ks x => addK x.at_ ks) ks ↔ t ∈ ks ∨ ∃ x ∈ us, x.at_ = t
  | [], ks, h => by simpa using h
  | x :: us, ks, h => by
    obtain ⟨h1, h2⟩ := foldl_addK us (addK x.at_ ks) (addK_nodup h _)
    refine ⟨h1, fun t => ?_⟩
    rw [List.foldl_cons, h2, mem_addK]
    simp only [List.mem_cons, exists_eq_or_imp]
    constructor
    · rintro ((h | h) | h)
      · exact .inl h
      · exact .inr (.inl h.symm)
      · exact .inr (.inr h)
    · rintro (h | h | h)
      · exact .inl (.inl h)
      · exact .inl (.inr h.symm)
      · exact .inr h
theorem tsU_nodup (us : List Us) : (tsU us).Nodup := (foldl_addK us [] .nil).1
theorem mem_tsU {us : List Us} {t : Int} : t ∈ tsU us ↔ ∃ x ∈ us, x.at_ = t := by
  rw [tsU, (foldl_addK us [] .nil).2]; simp
theorem tsU_times (b : Bg) (u : List Us) (p n : Int) : sortI (tsU (u.filter (inP b n p))) = timesF b u p n := by
  refine sorted_eq (sortI_lt (tsU_nodup _)) (timesF_sorted b u p n) fun t => ?_
  rw [(sortI_perm _).mem_iff, mem_tsU, mem_timesF]
  simp only [List.mem_filter]
  exact ⟨fun ⟨x, ⟨h1, h2⟩, h3⟩ => ⟨x, h1, h2, h3⟩, fun ⟨x, h1, h2, h3⟩ => ⟨x, ⟨h1, h2⟩, h3⟩⟩
theorem tsU_len (us : List Us) : (tsU us).length ≤ us.length := by
  have := nodupI_le _ (us.map fun x => x.at_) (tsU_nodup us) fun t ht => by
    obtain ⟨x, hx, rfl⟩ := mem_tsU.1 ht
    exact List.mem_map.2 ⟨x, hx, rfl⟩
  simpa using this
theorem atF_snoc (us : List Us) (x : Us) (t : Int) : atF (us ++ [x]) t = if x.at_ = t then ((atF us t).1 + 1, (atF us t).2 + x.value) else atF us t := by
  rw [atF, atF, sumP_snoc]
  by_cases h : x.at_ = t
  · rw [if_pos h, if_pos (by rw [eqT, decide_eq_true h])]
  · rw [if_neg h, if_neg (by rw [eqT, decide_eq_false h]; simp)]
theorem atF_none {us : List Us} {t : Int} (h : t ∉ tsU us) : atF us t = (0, 0) := sumP_none fun x hx => by
  rw [eqT, decide_eq_false fun e => h (mem_tsU.2 ⟨x, hx, e⟩)]
theorem sumP_or {p q : Us → Bool} (h : ∀ x, ¬ (p x = true ∧ q x = true)) : ∀ l : List Us, sumP (fun x => p x || q x) l = ((sumP p l).1 + (sumP q l).1, (sumP p l).2 + (sumP q l).2)
  | [] => rfl
  | x :: l => by
    have ih := sumP_or h l
    have hx := h x
    simp only [sumP, ih]
    cases hp : p x <;> cases hq : q x <;> simp [hp, hq] at hx ⊢ <;> omega
/-- What was spent up to a time, of the sums before. -/
theorem cum_snoc (us : List Us) (d : List Int) (t : Int) (ht : t ∉ d) : sumP (inT (d ++ [t])) us = ((sumP (inT d) us).1 + (atF us t).1, (sumP (inT d) us).2 + (atF us t).2) := by
  rw [atF, ← sumP_or (p := inT d) (q := eqT t) fun x ⟨h1, h2⟩ => by
    simp only [inT, eqT, decide_eq_true_eq] at h1 h2
    exact ht (h2 ▸ h1)]
  refine sumP_congr fun x _ => ?_
  rw [inT, inT, eqT, ← Bool.decide_or, decide_eq_decide]
  simp
theorem cum_is {b : Bg} {u : List Us} {n p t : Int} {d r : List Int} (h : timesF b u p n = d ++ t :: r) : spentF b u t n = sumP (inT (d ++ [t])) (u.filter (inP b n p)) := by
  have hs := timesF_sorted b u p n
  have ht : t ∈ timesF b u p n := by rw [h]; simp
  obtain ⟨x0, hx0, hp0, e0⟩ := mem_timesF.1 ht
  have hpt : t / b.period = p := by
    rw [inP, Bool.and_eq_true, decide_eq_true_eq, e0] at hp0
    exact hp0.2
  rw [spentF_in, hpt]
  refine sumP_congr fun x hx => ?_
  obtain ⟨hx1, hx2⟩ := List.mem_filter.1 hx
  have hxm : x.at_ ∈ timesF b u p n := mem_timesF.2 ⟨x, hx1, hx2, rfl⟩
  rw [leT, inT, decide_eq_decide]
  rw [h] at hs hxm
  rw [List.pairwise_append, List.pairwise_cons] at hs
  obtain ⟨s1, ⟨s2, s3⟩, s4⟩ := hs
  constructor
  · intro hle
    rcases List.mem_append.1 hxm with hm | hm
    · simp [hm]
    · rcases List.mem_cons.1 hm with hm | hm
      · simp [hm]
      · have := s2 _ hm; omega
  · intro hm
    rcases List.mem_append.1 hm with hm | hm
    · have := s4 _ hm t (by simp); omega
    · rw [List.mem_singleton] at hm; omega
def sumV (s : Int × Int) : AV := .agg [.int .i64 s.1, .int .i64 s.2]
def atV (us : List Us) (t : Int) : AV := sumV (atF us t)
theorem look_at (us : List Us) (t : Int) (c : Nat) (K : AV → Prop) : aLkO false (.agg [.int .i64 0, .int .i64 0]) (.int .i64 t) (some (.map (entsA (atV us) 0 (tsU us)) c)) K = K (sumV (atF us t)) := by
  rw [look_entsA]
  split
  · rfl
  · rename_i h
    rw [atF_none h]; rfl
theorem put_at (us : List Us) (x : Us) : (aFind (.int .i64 x.at_) (entsA (atV us) 0 (tsU us))).bind (putEnt (entsA (atV us) 0 (tsU us)) (tsU us).length (.int .i64 x.at_) (.agg [.int .i64 ((atF us x.at_).1 + 1), .int .i64 ((atF us x.at_).2 + x.value)])) =
    some (.map (entsA (atV (us ++ [x])) 0 (tsU (us ++ [x]))) (tsU (us ++ [x])).length) := by
  have := put_entsA (f := atV us) (f' := atV (us ++ [x])) x.at_ (tsU us) (tsU_nodup us) fun t ht => by
    rw [atV, atV, atF_snoc, if_neg fun e => ht e.symm]
  rw [← tsU_snoc] at this
  rw [← this, atV, atF_snoc, if_pos rfl]
  rfl
end Go.Proofs.Ytelehpccfaedjaa

/- The program's History. No conditions. -/
set_option linter.unusedSimpArgs false
set_option linter.unusedVariables false
namespace Go.Proofs.Ytelehpccfaedjaa
open Go Go.Proofs Go.Abs

theorem OwnAt.len {K K' j : AH} {n : Nat} {own : Abs.Own} (e : K.length = K'.length) (h : OwnAt K j n own) : OwnAt K' j n own := by
  cases own with
  | free => exact h
  | full => trivial
  | arena i =>
    obtain ⟨i', e1, e2⟩ := h
    exact ⟨i', by rw [← e]; exact e1, e2⟩
structure HisS where
  s : Int × Int
  l : List St
  own : Abs.Own
  j : AH
set_option maxHeartbeats 4000000 in
set_option maxRecDepth 100000 in
theorem pHistory_calls (Γ : Nat → Option (List AV)) (l : List Bg) (u : List Us) (no p known : Int) (h : AH) (hl : l.length ≤ 100000) (hu : u.length ≤ 100000) :
    ACalls Try.prog Γ 20 [.sl (encBs l) .free, .sl (encUs u) .free, .int .i64 no, .int .i64 p, .int .i64 known] h fun v h' => h' = h ∧ v = .tuple [.sl ((histR l u no p known).1.map encS) .free, .int .i64 (histR l u no p known).2] := by
  have c1 := fun h => pexamine_calls Γ l u h (by omega) (by omega)
  have c2 := fun h => pfind_calls Γ l u no known h (by omega)
  have c3 := fun o h => pwithin1 Γ 1099511627776 known o h
  have ht : inR known 0 (1099511627776 - 1) = timeF known := timeF_in known
  rw [ht] at c3
  rw [histR, findF_eq]
  refine ACalls.dropL ?_
  refine acalls_code (rs := [.tmp 10, .tmp 11]) Try.func20 rfl rfl rfl rfl Ty.mixed (by kernel_rfl) ?_
  simp (disch := omega) only [go_sem, seval]
  refine ACalls.det (c1 _) ?_
  simp (disch := omega) only [go_sem, seval]
  refine aIf.intro (fun h1 => ?_) (fun h1 => ?_) <;> simp (disch := omega) only [go_sem, seval]
  rotate_left
  · rw [if_pos h1]; rfl
  rw [if_neg (by simpa using h1)]
  obtain ⟨k1, k2, k3, k4, k5, k6, k7⟩ := err0 h1
  refine ACalls.det (c2 _) ?_
  cases hf : l.find? (isNo no) with
  | none =>
    simp only [bookV, bookC, Option.isSome_none]
    simp (disch := omega) only [go_sem, seval]
  | some b =>
  have hbl : b ∈ l := List.mem_of_find?_eq_some hf
  have hrb := k4 b hbl
  have hpd := rightB_period hrb
  obtain ⟨q1, q2, q3⟩ := div_facts (a := 1099511627775) (p := b.period) (by omega) hpd.1
  have c4 := fun h => in_calls Γ b u known p h
  have c5 := fun L => in1_calls Γ L b u known p hrb k7 (by omega)
  have c6 := fun c v h => fine_calls Γ b u known c v h
  rw [inV] at c4
  simp only [bookV, bookC, Option.isSome_some] at c4 c5 c6 ⊢
  simp (disch := omega) only [go_sem, seval]
  rw [show (END - 1 : Int) = 1099511627775 from rfl]
  refine aIf.intro (fun h2 => ?_) (fun h2 => ?_) <;> simp (disch := omega) only [go_sem, seval]
  · rw [decide_eq_false (by omega)]; rfl
  rw [decide_eq_true (by omega)]
  refine ⟨by omega, ?_⟩
  rw [q1]
  refine aIf.intro (fun h3 => ?_) (fun h3 => ?_) <;> simp (disch := omega) only [go_sem, seval]
  · rw [decide_eq_false (by omega)]; rfl
  rw [decide_eq_true (by omega)]
  refine ACalls.det (c3 _ _) ?_
  cases hk : timeF known with
  | false => simp (disch := omega) only [go_sem, seval]
  | true =>
  simp (disch := omega) only [go_sem, seval]
  refine ACalls.det (c4 _) ?_
  simp (disch := omega) only [go_sem, seval]
  obtain ⟨us, hus⟩ : ∃ us, us = u.filter (inP b known p) := ⟨_, rfl⟩
  have husm : ∀ x ∈ us, rightU x = true := fun x hx => k7 x (List.mem_filter.1 (by rw [← hus]; exact hx)).1
  have husl : us.length ≤ u.length := by rw [hus]; exact List.length_filter_le _ _
  rw [← hus] at c5
  refine AWP.keep [10, 13, 15, 57] ?_
  simp (disch := omega) only [go_sem, seval]
  refine awp_rangeFuncL rfl (fun li hli => ?_)
  simp (disch := omega) only [go_sem, seval]
  obtain ⟨H, hH⟩ : ∃ H : List Us → AObj → AH, ∀ d lo, H d lo = h ++ [.row (bookC b u known) 72, .map (entsA (atV d) 0 (tsU d)) (tsU d).length, .row [.map (some (h.length + 1))] 89, lo] := ⟨_, fun _ _ => rfl⟩
  have Hn : ∀ d lo, (H d lo).length = h.length + 4 := fun d lo => by rw [hH]; simp
  have Hm : ∀ d lo (R : AH), (H d lo ++ R)[h.length + 1]? = some (.map (entsA (atV d) 0 (tsU d)) (tsU d).length) := fun d lo R => by rw [hH]; simp
  have Hc : ∀ d lo (R : AH), (H d lo ++ R)[h.length + 2]? = some (.row [.map (some (h.length + 1))] 89) := fun d lo R => by rw [hH]; simp
  have HL : ∀ d lo (R : AH), (H d lo ++ R)[h.length + 3]? = some lo := fun d lo R => by rw [hH]; simp
  have Sm : ∀ d lo (R : AH) d', (H d lo ++ R).set (h.length + 1) (.map (entsA (atV d') 0 (tsU d')) (tsU d').length) = H d' lo ++ R := fun d lo R d' => by rw [hH, hH]; simp
  have SL : ∀ d lo (R : AH) lo', (H d lo ++ R).set (h.length + 3) lo' = H d lo' ++ R := fun d lo R lo' => by rw [hH, hH]; simp
  have g1 : ∀ d lo (jj R : AH), (H d lo ++ (jj ++ R))[h.length + 4 + jj.length]? = R[0]? := fun d lo jj R => by rw [← Hn d lo, hget_add, hget_zero]
  have g2 : ∀ d lo (jj R : AH) (o : AObj), (H d lo ++ (jj ++ R)).set (h.length + 4 + jj.length) o = H d lo ++ (jj ++ R.set 0 o) := fun d lo jj R o => by rw [← Hn d lo, hset_add, hset_zero]
  refine ACalls.mono ((c5 (h.length + 3) (fun d => H d (.loop .ready none li)) (h.length + 4) (fun d => Hn d _) ?_).heap ?_) ?_
  · rintro don x jj ⟨r, hd⟩
    have hxm := husm x (by rw [hd]; simp)
    have hx := rightU_facts hxm
    have hsum := sum_facts (p := eqT x.at_) (l := don) fun y hy => husm y (by rw [hd]; simp [hy])
    have hdl : don.length ≤ us.length := by rw [hd]; simp
    rw [← atF] at hsum
    have hc := fun h => add_calls Γ (atF don x.at_).1 (atF don x.at_).2 x h (by omega) (by omega) (by omega)
    have hput := put_at don x
    refine ayield_L hli (HL _ _ _) rfl rfl Ty.mixed (by kernel_rfl) (by kernel_rfl) ?_
    simp only [encU] at hc ⊢
    simp (disch := omega) only [go_sem, seval, Hn, Hm, Hc, HL, SL, g1, g2, List.length_append, look_at, sumV]
    refine aCallF.intro (fun _ => hc _) ?_
    simp (disch := omega) only [go_sem, seval, Hn, Hm, Hc, HL, SL, g1, g2, List.length_append, hput, Sm]
  · simp only [hH]
    simp [bookC, tsU, entsA]
  · rintro _ _ ⟨jj, rfl⟩
    refine ⟨h ++ [.row (bookC b u known) 72, .map (entsA (atV us) 0 (tsU us)) (tsU us).length, .row [.map (some (h.length + 1))] 89], .ready, none, jj, ?_, ?_, by simp, ?_⟩
    · rw [hH]; simp
    · have hmb : ∀ n, RBobj n (AObj.map (entsA (atV us) 0 (tsU us)) (tsU us).length) := fun n j e he => by
        rw [entsA_get] at he
        obtain ⟨t, _, rfl⟩ := Option.map_eq_some_iff.1 he
        exact ⟨.int _ _, of_eq_true (by rw [atV, sumV]; simp (disch := omega) only [go_sem, seval])⟩
      have q1 := LoopKept.set (h := h ++ [.row (bookC b u known) 72, .map [] 0, .row [.map (some (h.length + 1))] 89]) (i := h.length + 1) (ob := AObj.map (entsA (atV us) 0 (tsU us)) (tsU us).length) (hmb _) (by simp)
      simp only [hset_add, List.set_cons_succ, List.set_cons_zero] at q1
      exact q1
    · simp (disch := omega) only [go_sem, seval]
      refine AWP.keep [10, 13, 15] (aCode_ok Ty.mixed _ _ _ _ (by kernel_rfl) ?_)
      simp (disch := omega) only [go_sem, seval]
      have htl := tsU_len us
      refine ACalls.then (keysS_calls Γ (h.length + 1) _) ?_
      rintro _ _ ⟨rfl, rfl⟩
      simp (disch := omega) only [go_sem, seval]
      refine ACalls.det (sortedS_calls Γ (h.length + 1) _ (atV us) (tsU us) _ (by simp (disch := omega) only [go_sem, seval]) (by simp (disch := omega) only [go_sem, seval]) (by omega)) ?_
      simp (disch := omega) only [go_sem, seval, encI_len]
      have hts : sortI (tsU us) = timesF b u p known := by rw [hus]; exact tsU_times b u p known
      rw [hts]
      have htl2 := timesF_len b u p known
      generalize hts' : timesF b u p known = ts at *
      obtain ⟨G, hG⟩ : ∃ G : Int → Int → AH, ∀ c v, G c v = h ++ [.row (bookC b u known) 72, .map (entsA (atV us) 0 (tsU us)) (tsU us).length, .row [.map (some (h.length + 1))] 89, .row [.int .i64 c, .int .i64 v] 77, .row [.map (some (h.length + 1))] 89] := ⟨_, fun _ _ => rfl⟩
      have Gl : ∀ c v, (G c v).length = h.length + 5 := fun c v => by rw [hG]; simp
      have Gb : ∀ c v (R : AH), (G c v ++ R)[h.length]? = some (.row (bookC b u known) 72) := fun c v R => by rw [hG]; simp
      have Gm : ∀ c v (R : AH), (G c v ++ R)[h.length + 1]? = some (.map (entsA (atV us) 0 (tsU us)) (tsU us).length) := fun c v R => by rw [hG]; simp
      have Gc : ∀ c v (R : AH), (G c v ++ R)[h.length + 2]? = some (.row [.map (some (h.length + 1))] 89) := fun c v R => by rw [hG]; simp
      have Gs : ∀ c v (R : AH), (G c v ++ R)[h.length + 3]? = some (.row [.int .i64 c, .int .i64 v] 77) := fun c v R => by rw [hG]; simp
      have Ss : ∀ c v (R : AH) c' v', (G c v ++ R).set (h.length + 3) (.row [.int .i64 c', .int .i64 v'] 77) = G c' v' ++ R := fun c v R c' v' => by rw [hG, hG]; simp
      have Gh : ∀ c v (R : AH), ∃ l, G c v ++ R = h ++ l := fun c v R => ⟨_, by rw [hG, List.append_assoc]⟩
      refine awp_loopL (β := HisS) ts [10, 13, 15, 17, 70, 71, 72] (fun don s => [(10, .sl (s.l.map encS) s.own), (13, .ptr (some (h.length, 0))), (15, .ptr (some (h.length + 2, 0))), (17, .ptr (some (h.length + 3, 0))), (70, .sl (encI ts) .free), (71, .int .i64 ts.length), (72, .int .i64 don.length)])
        (fun s => G s.s.1 s.s.2 ++ s.j) (fun don _ s => s.s = sumP (inT don) us ∧ OwnAt (G 0 0) s.j s.l.length s.own ∧ s.l = don.map (stepF b u known)) ⟨(0, 0), [], .full, []⟩ ?_ ?_ ⟨(sumP_none fun x _ => by simp [inT]).symm, trivial, rfl⟩ Ty.mixed (by kernel_rfl) ?_ ?_
      · simp (disch := omega) only [go_sem, seval, List.map_nil]
      · rw [hG]; simp [bookC]
      · rintro don t r ⟨⟨c, v⟩, m, own, j⟩ hd ⟨hcv, ho, hm⟩
        simp only at hcv ho hm ⊢
        have hlen : ts.length = don.length + 1 + r.length := by rw [hd]; simp; omega
        have e1 : (encI ts)[don.length]? = some (.int .i64 t) := by rw [hd]; exact encI_get don r t
        have hml : m.length = don.length := by rw [hm, List.length_map]
        have htd : t ∉ don := by
          have hs := timesF_sorted b u p known
          rw [hts', hd, List.pairwise_append] at hs
          exact fun hh => by have := hs.2.2 t hh t (by simp); omega
        have hcum := cum_is (by rw [hts', hd])
        have hsn := cum_snoc us don t htd
        have hb1 := sum_facts (p := inT don) husm
        have hb2 := sum_facts (p := eqT t) husm
        have hb3 := sum_facts (p := inT (don ++ [t])) husm
        rw [← hus, hsn] at hcum
        rw [hsn] at hb3
        rw [← atF] at hb2
        rw [← hcv] at hcum hsn hb1 hb3
        have hstep : stepF b u known t = ⟨t, (spentF b u t known).1, fineF b (spentF b u t known)⟩ := rfl
        rw [hcum] at hstep
        have c7 := fun h => c6 (c + (atF us t).1) (v + (atF us t).2) h
        have hlk := look_at us t
        generalize atF us t = a at *
        obtain ⟨a1, a2⟩ := a
        simp only at hstep hsn hb1 hb2 hb3 c7
        simp (disch := omega) only [go_sem, seval]
        refine aIf.pos (by omega) ?_
        simp (disch := omega) only [go_sem, seval, e1, Gs, Gc, Gm, Ss, hlk, sumV, Gb, bookC]
        refine aCallF.intro (fun _ => c7 _) ?_
        generalize fineF b (c + a1, v + a2) = bf at *
        simp (disch := omega) only [go_sem, seval]
        refine aAp_sl (by rw [List.length_map]; exact OwnAt.len (K := G 0 0) (by rw [Gl, Gl]) ho) (rowsOK_S _) (rowsOK_S [⟨t, c + a1, bf⟩]) (by simp; omega) (by simp; omega) fun j' own' ho2 hg => ?_
        have ho3 : OwnAt (G 0 0) j' (m ++ [(⟨t, c + a1, bf⟩ : St)]).length own' := by
          rw [List.length_map] at ho2
          rw [List.length_append]
          exact OwnAt.len (K := G (c + a1) (v + a2)) (by rw [Gl, Gl]) ho2
        simp (disch := omega) only [go_sem, seval]
        refine roundL_next ⟨(c + a1, v + a2), m ++ [⟨t, c + a1, bf⟩], own', j'⟩ ⟨hsn.symm, ho3, by rw [hm, List.map_append, List.map_cons, hstep]; rfl⟩ ?_ rfl
        simp (disch := omega) only [go_sem, seval, List.length_append, List.map_append]
        rfl
      · rintro ⟨⟨c, v⟩, m, own, j⟩ ⟨hcv, ho, hm⟩
        simp only at hm
        simp (disch := omega) only [go_sem, seval]
        refine AWP.keep [10] (aCode_ok Ty.mixed _ _ _ _ (by kernel_rfl) ?_)
        simp (disch := omega) only [go_sem, seval, loose_S]
        refine ⟨Gh _ _ _, rb_S _ _, ?_⟩
        rw [hm, stepsF, hts']
end Go.Proofs.Ytelehpccfaedjaa
