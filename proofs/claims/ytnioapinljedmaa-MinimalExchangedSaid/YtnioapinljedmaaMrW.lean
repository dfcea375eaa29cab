/- Texts joined: MinT. No conditions. -/
import Derived.Test.YtnioapinljedmaaMrS
/- People who are exchanged, in plain lists. No conditions. -/
set_option linter.unusedSimpArgs false
set_option linter.unusedVariables false
namespace Go.Proofs.Ytnioapinljedmaa
open Go Go.Proofs Go.Abs

/-- Two numbers exchanged. -/
def swF (a b x : Int) : Int := if x = a then b else if x = b then a else x
theorem sw_sw (a b x : Int) : swF a b (swF a b x) = x := by
  unfold swF
  repeat' split
  all_goals first | rfl | omega
theorem sw_inj {a b x y : Int} (h : swF a b x = swF a b y) : x = y := by
  have := congrArg (swF a b) h
  rwa [sw_sw, sw_sw] at this
structure Sw (a b : Int) : Prop where
  a : 0 ≤ a ∧ a < 64
  b : 0 ≤ b ∧ b < 64
theorem sw_pos {a b : Int} (h : Sw a b) (x : Int) : (0 ≤ swF a b x ↔ 0 ≤ x) ∧ (swF a b x < 64 ↔ x < 64) := by
  have h1 := h.a
  have h2 := h.b
  unfold swF
  split
  · omega
  · split <;> omega
mutual
def movF (a b : Int) : Gt → Gt
  | .mk p n l => .mk (if 0 ≤ p then swF a b p else p) n (movL a b l)
def movL (a b : Int) : List Gt → List Gt
  | [] => []
  | x :: r => movF a b x :: movL a b r
end
theorem movL_map (a b : Int) (l : List Gt) : movL a b l = l.map (movF a b) := by
  induction l with
  | nil => rfl
  | cons x r ih => simp [movL, ih]
theorem mov_pos {a b : Int} (h : Sw a b) (p : Int) : 0 ≤ (if 0 ≤ p then swF a b p else p) ↔ 0 ≤ p := by
  split
  · exact (sw_pos h p).1
  · rfl
mutual
theorem mov_right {a b : Int} (h : Sw a b) : ∀ g : Gt, rightF (movF a b g) = rightF g
  | .mk p n l => by
    rw [movF, rightF, rightF]
    by_cases hp : 0 ≤ p
    · rw [if_pos hp, if_pos ((sw_pos h p).1.2 hp), if_pos hp]
      congr 1
      · congr 1
        rw [decide_eq_decide]; exact (sw_pos h p).2
      · cases l <;> rfl
    · rw [if_neg hp, if_neg hp, if_neg hp, mov_rightL h l]
theorem mov_rightL {a b : Int} (h : Sw a b) : ∀ l : List Gt, rightL (movL a b l) = rightL l
  | [] => rfl
  | x :: r => by rw [movL, rightL, rightL, mov_right h x, mov_rightL h r]
end
mutual
theorem mov_holds {a b : Int} (h : Sw a b) (W : Int → Bool) : ∀ g : Gt, holdsF W (movF a b g) = holdsF (fun p => W (swF a b p)) g
  | .mk p n l => by
    rw [movF, holdsF, holdsF]
    by_cases hp : 0 ≤ p
    · rw [if_pos hp, if_pos ((sw_pos h p).1.2 hp), if_pos hp]
    · rw [if_neg hp, if_neg hp, if_neg hp, mov_cnt h W l]
theorem mov_cnt {a b : Int} (h : Sw a b) (W : Int → Bool) : ∀ (l : List Gt) (n : Int), cntF W (movL a b l) n = cntF (fun p => W (swF a b p)) l n
  | [], n => by simp [movL, cntF]
  | x :: r, n => by
    rw [movL, cntF, cntF, mov_holds h W x]
    simp only [mov_cnt h W r]
end
mutual
theorem mov_in {a b : Int} (h : Sw a b) (x : Int) : ∀ g : Gt, rightF g = true → inG x (movF a b g) = inG (swF a b x) g
  | .mk p n l, hr => by
    rw [movF, inG, inG]
    by_cases hp : 0 ≤ p
    · simp only [rightF, if_pos hp, Bool.and_eq_true, List.isEmpty_iff, decide_eq_true_eq] at hr
      obtain ⟨_, rfl⟩ := hr
      rw [if_pos hp]
      simp only [movL, inL, Bool.or_false, decide_eq_decide]
      constructor
      · rintro ⟨_, rfl⟩; exact ⟨hp, (sw_sw a b p).symm⟩
      · rintro ⟨_, e⟩; exact ⟨(sw_pos h p).1.2 hp, by rw [e, sw_sw]⟩
    · rw [if_neg hp, mov_inL h x l (right_gate hp hr).2]
      simp [hp]
theorem mov_inL {a b : Int} (h : Sw a b) (x : Int) : ∀ l : List Gt, rightL l = true → inL x (movL a b l) = inL (swF a b x) l
  | [], _ => rfl
  | y :: r, hr => by
    simp only [rightL, Bool.and_eq_true] at hr
    rw [movL, inL, inL, mov_in h x y hr.1, mov_inL h x r hr.2]
end
theorem mov_deeper (a b : Int) : ∀ (d : Nat) (g : Gt), deeperF d (movF a b g) = deeperF d g
  | 0, .mk p n l => rfl
  | d + 1, .mk p n l => by
    rw [movF, movL_map, deeperF, deeperF]
    show (l.map (movF a b)).any (deeperF d) = l.any (deeperF d)
    rw [List.any_map]
    congr 1
    funext x
    exact mov_deeper a b d x
mutual
theorem mov_leaves (a b : Int) : ∀ (g : Gt) (lim : Int), leaves (movF a b g) lim = leaves g lim
  | .mk p n l, lim => by
    rw [movF]
    cases l with
    | nil => simp [leaves, movL]
    | cons x r =>
      rw [movL, leaves, leaves, ← movL, mov_leavesL a b (x :: r)]
      rfl
theorem mov_leavesL (a b : Int) : ∀ (l : List Gt) (lim n : Int), leavesL (movL a b l) lim n = leavesL l lim n
  | [], lim, n => by simp [movL]
  | x :: r, lim, n => by
    rw [movL, leavesL, leavesL]
    simp only [mov_leaves a b x, mov_leavesL a b r]
end
theorem mov_check {a b : Int} (h : Sw a b) (g : Gt) : checkF (movF a b g) = checkF g := by
  rw [checkF, checkF, mov_deeper, mov_leaves, mov_right h]
theorem mov_small {a b : Int} (h : Sw a b) (g : Gt) : smallF (movF a b g) = smallF g := by
  rw [smallF, smallF, mov_leaves, mov_check h]
theorem mov_all (a b : Int) (g : Gt) (hl : allLeaves g ≤ 1000) : allLeaves (movF a b g) = allLeaves g := by
  have h1 := leaves_all g 1000 (by omega)
  have h2 := leaves_all (movF a b g) 1000 (by omega)
  rw [mov_leaves] at h2
  omega
/-- A set whose people are exchanged. -/
def exF (a b : Int) (s : List Int) : List Int := sortI (s.map (swF a b))
theorem mem_ex {a b : Int} (s : List Int) (x : Int) : x ∈ exF a b s ↔ swF a b x ∈ s := by
  rw [exF, (sortI_perm _).mem_iff, List.mem_map]
  constructor
  · rintro ⟨y, h1, rfl⟩; rwa [sw_sw]
  · intro h; exact ⟨_, h, sw_sw a b x⟩
theorem ex_lt {a b : Int} {s : List Int} (h : s.Nodup) : (exF a b s).Pairwise (· < ·) := by
  have h1 := sortI_le (s.map (swF a b))
  have h2 : (sortI (s.map (swF a b))).Nodup := by
    rw [(sortI_perm _).nodup_iff, List.Nodup, List.pairwise_map]
    exact h.imp fun hne e => hne (sw_inj e)
  exact (h1.and h2).imp fun h => by omega
theorem ex_ex {a b : Int} {s : List Int} (h : s.Pairwise (· < ·)) : exF a b (exF a b s) = s :=
  lt_eq (ex_lt (pw_nodup (ex_lt (pw_nodup h)))) h fun x => by rw [mem_ex, mem_ex, sw_sw]
theorem mov_ppl {a b : Int} (h : Sw a b) {g : Gt} (hc : checkF g = 0) : pplF (movF a b g) = exF a b (pplF g) := by
  have hr := checkF_right hc
  refine lt_eq (ppl_lt (by rw [mov_check h]; exact hc)) (ex_lt (pw_nodup (ppl_lt hc))) fun x => ?_
  rw [mem_ppl (by rw [mov_right h]; exact hr), mem_ex, mem_ppl hr, mov_in h x g hr]
theorem ex_len (a b : Int) (s : List Int) : (exF a b s).length = s.length := by rw [exF, (sortI_perm _).length_eq, List.length_map]
theorem mov_err {a b : Int} (h : Sw a b) (g : Gt) : errF (movF a b g) = errF g := by
  rw [errF, errF, mov_check h]
  by_cases hc : checkF g = 0
  · rw [if_pos hc, if_pos hc, mov_ppl h hc, ex_len]
  · rw [if_neg hc, if_neg hc]
theorem mov_perm {a b : Int} (h : Sw a b) {g : Gt} (hc : checkF g = 0) {s t : List Int} (hs : ascF (-1) s = true) (ht : ascF (-1) t = true) (hst : ∀ x, x ∈ t ↔ swF a b x ∈ s) : permF (movF a b g) t = permF g s := by
  rw [(permF_asc (by rw [mov_check h]; exact hc) ht).2, (permF_asc hc hs).2, mov_holds h]
  congr 1
  funext p
  rw [decide_eq_decide, hst, sw_sw]
theorem ex_sub {a b : Int} {P s : List Int} (hP : P.Pairwise (· < ·)) (hs : s.Sublist P) : (exF a b s).Sublist (exF a b P) :=
  sub_of_asc _ _ (ex_lt (pw_nodup (hP.sublist hs))) (ex_lt (pw_nodup hP)) fun x hx => by rw [mem_ex] at hx ⊢; exact hs.subset hx
/-- What is least is exchanged. -/
theorem ex_minl {a b : Int} {P : List Int} {fine fine2 : List Int → Bool} (hP : P.Pairwise (· < ·)) (hf : ∀ s, s.Sublist P → fine2 (exF a b s) = fine s) {s : List Int} (hs : Minl P fine s) : Minl (exF a b P) fine2 (exF a b s) := by
  refine ⟨ex_sub hP hs.1, by rw [hf s hs.1]; exact hs.2.1, fun t h1 h2 h3 => ?_⟩
  have hPe := ex_lt (a := a) (b := b) (pw_nodup hP)
  have ht := hPe.sublist h1
  have h4 : (exF a b t).Sublist P := by
    have := ex_sub (a := a) (b := b) hPe h1
    rwa [ex_ex hP] at this
  have h5 : fine (exF a b t) = true := by rw [← hf _ h4, ex_ex ht]; exact h2
  have h6 := hs.2.2 _ h4 h5 fun x hx => by
    rw [mem_ex] at hx
    have := h3 _ hx
    rw [mem_ex, sw_sw] at this
    exact this
  rw [← h6, ex_ex ht]
theorem ex_mins {a b : Int} {P : List Int} {fine fine2 : List Int → Bool} (hP : P.Pairwise (· < ·)) (hf : ∀ s, s.Sublist P → fine2 (exF a b s) = fine s) :
    (∀ s ∈ minsF P fine, exF a b s ∈ minsF (exF a b P) fine2) ∧ (minsF (exF a b P) fine2).length = (minsF P fine).length := by
  have hPe := ex_lt (a := a) (b := b) (pw_nodup hP)
  have h1 : ∀ s ∈ minsF P fine, exF a b s ∈ minsF (exF a b P) fine2 := fun s hs => (mem_mins hPe _).2 (ex_minl hP hf ((mem_mins hP s).1 hs))
  have hf2 : ∀ s, s.Sublist (exF a b P) → fine (exF a b s) = fine2 s := fun s hs => by
    have h4 : (exF a b s).Sublist P := by
      have := ex_sub (a := a) (b := b) hPe hs
      rwa [ex_ex hP] at this
    rw [← hf _ h4, ex_ex (hPe.sublist hs)]
  refine ⟨h1, ?_⟩
  have hp : (minsF (exF a b P) fine2).Perm ((minsF P fine).map (exF a b)) := by
    refine (List.perm_ext_iff_of_nodup (bef_nodup (mins_pw fine2 hPe)) ?_).2 fun t => ?_
    · rw [List.Nodup, List.pairwise_map]
      refine List.Pairwise.imp_of_mem ?_ (bef_nodup (mins_pw fine hP))
      intro s t hs ht hne e
      refine hne ?_
      rw [← ex_ex (a := a) (b := b) (hP.sublist ((mem_mins hP s).1 hs).1), e, ex_ex (hP.sublist ((mem_mins hP t).1 ht).1)]
    · rw [List.mem_map]
      constructor
      · intro ht
        have hm := (mem_mins hPe t).1 ht
        refine ⟨exF a b t, (mem_mins hP _).2 ?_, ex_ex (hPe.sublist hm.1)⟩
        have := ex_minl (a := a) (b := b) hPe hf2 hm
        rwa [ex_ex hP] at this
      · rintro ⟨s, hs, rfl⟩; exact h1 s hs
  rw [hp.length_eq, List.length_map]
theorem mov_fine {a b : Int} (h : Sw a b) {g : Gt} (hc : checkF g = 0) (k : Bool) (s : List Int) (hs : s.Sublist (pplF g)) : fineF (movF a b g) k (exF a b s) = fineF g k s := by
  have hcm : checkF (movF a b g) = 0 := by rw [mov_check h]; exact hc
  have hP := ppl_lt hc
  have hse : (exF a b s).Sublist (pplF (movF a b g)) := by rw [mov_ppl h hc]; exact ex_sub hP hs
  cases k with
  | false => exact mov_perm h hc (sub_asc hc hs) (sub_asc hcm hse) fun x => mem_ex s x
  | true =>
    show (!permF (movF a b g) _) = (!permF g _)
    rw [mov_perm h hc (sub_asc hc (wt_sub _ s)) (sub_asc hcm (wt_sub _ (exF a b s))) fun x => ?_]
    rw [mem_wt, mem_wt, mov_ppl h hc, mem_ex, mem_ex]
theorem mov_sets {a b : Int} (h : Sw a b) {g : Gt} (hc : checkF g = 0) (k : Bool) :
    (∀ s ∈ minsF (pplF g) (fineF g k), exF a b s ∈ minsF (pplF (movF a b g)) (fineF (movF a b g) k)) ∧ (minsF (pplF (movF a b g)) (fineF (movF a b g) k)).length = (minsF (pplF g) (fineF g k)).length := by
  rw [mov_ppl h hc]
  exact ex_mins (ppl_lt hc) (mov_fine h hc k)
theorem mov_use {a b : Int} (h : Sw a b) {g : Gt} (hu : useF g = true) : useF (movF a b g) = true := by
  have hc := (use_ok hu).c
  have h1 := (mov_sets h hc false).2
  have h2 := (mov_sets h hc true).2
  have e1 : (setsF (movF a b g)).length = (setsF g).length := h1
  have e2 : (blksF (movF a b g)).length = (blksF g).length := h2
  rw [useF, mov_small h, mov_err h, e1, e2]
  exact hu
end Go.Proofs.Ytnioapinljedmaa
