/- Texts joined: PerL. No conditions. -/
import Derived.Test.YtplllkjobpjaoaaDoorMrEK
/- Nobody, people without an office, weights of 1: plain; weighs. No conditions. -/
set_option linter.unusedSimpArgs false
set_option linter.unusedVariables false
namespace Go.Proofs.YtplllkjobpjaoaaDoor
open Go Go.Proofs Go.Abs

theorem ful_ind {f g : Ex → Bool} {q : Ex → Bool} (hq : ∀ x, q x = true → ∀ y ∈ x.l, q y = true) (H : ∀ x, q x = true → (∀ y ∈ x.l, f y = g y) → f x = g x) : ∀ (m : Nat) (x : Ex), SizeOf.sizeOf x < m → q x = true → f x = g x
  | 0, _, hk, _ => absurd hk (Nat.not_lt_zero _)
  | m + 1, x, hsz, hx => H x hx fun y hy => ful_ind hq H m y (by cases x; exact memX_sz hy hsz) (hq x hx y hy)
/-- Only who holds offices matters. -/
theorem ful_congr {v : Int} {hs hs2 : List (List Hd)} {w1 w2 : List Int} (hA : ∀ no, anyH w1 (rowH hs no) = anyH w2 (rowH hs2 no)) (hS : ∀ no, sumH w1 (rowH hs no) = sumH w2 (rowH hs2 no)) (x : Ex) : fulF v hs w1 x = fulF v hs2 w2 x := by
  refine ful_ind (q := fun _ => true) (fun _ _ _ _ => rfl) (fun x _ ih => ?_) _ x (Nat.lt_succ_self _) rfl
  rw [fulF_eq, fulF_eq v hs2, hA, hS, List.map_congr_left ih]
theorem any_congr {w1 w2 : List Int} {l : List Hd} (h : ∀ y ∈ l, hasP w1 y.person = hasP w2 y.person) : anyH w1 l = anyH w2 l := by
  rw [anyH, anyH]
  induction l with
  | nil => rfl
  | cons y r ih => rw [List.any_cons, List.any_cons, h y (by simp), ih fun z hz => h z (by simp [hz])]
theorem sum_congr {w1 w2 : List Int} {l : List Hd} (h : ∀ y ∈ l, hasP w1 y.person = hasP w2 y.person) : sumH w1 l = sumH w2 l := by
  induction l with
  | nil => rfl
  | cons y r ih => rw [sumH, sumH, h y (by simp), ih fun z hz => h z (by simp [hz])]
theorem rowH_in {hs : List (List Hd)} {no : Int} {y : Hd} (hy : y ∈ rowH hs no) : rowH hs no ∈ hs := by
  rw [rowH, List.getD_eq_getElem?_getD] at hy ⊢
  cases e : hs[no.toNat]? with
  | none => rw [e] at hy; cases hy
  | some l => exact List.mem_of_getElem? e
def holdsF (hs : List (List Hd)) (i : Int) : Bool := hs.any fun l => l.any fun y => decide (y.person = i)
def ownF (hs : List (List Hd)) (who : List Int) : List Int := who.filter (holdsF hs)
theorem has_own {hs : List (List Hd)} {who : List Int} {no : Int} {y : Hd} (hy : y ∈ rowH hs no) : hasP (ownF hs who) y.person = hasP who y.person := by
  have hh : holdsF hs y.person = true := List.any_eq_true.2 ⟨_, rowH_in hy, List.any_eq_true.2 ⟨y, hy, by simp⟩⟩
  rw [hasP, hasP]
  refine decide_eq_decide.2 ?_
  rw [ownF, List.mem_filter]
  exact ⟨fun h => h.1, fun h => ⟨h, hh⟩⟩
theorem ful_own (v : Int) (hs : List (List Hd)) (who : List Int) (x : Ex) : fulF v hs (ownF hs who) x = fulF v hs who x :=
  ful_congr (fun _ => any_congr fun _ hy => has_own hy) (fun _ => sum_congr fun _ hy => has_own hy) x
theorem own_people {hs : List (List Hd)} {who : List Int} (h : peopleF who = true) : peopleF (ownF hs who) = true := by
  rw [peopleF_iff] at h ⊢
  exact ⟨h.1.filter _, fun n hn => h.2 n (List.mem_filter.1 hn).1⟩
/-- Nobody may do nothing. -/
theorem any_nil (l : List Hd) : anyH [] l = false := by
  rw [anyH, List.any_eq_false]; intro y _; simp [hasP]
theorem sum_nil (l : List Hd) : sumH [] l = 0 := by
  induction l with
  | nil => rfl
  | cons y r ih => rw [sumH, ih]; simp [hasP]
theorem cnt_false {l : List Bool} (h : ∀ b ∈ l, b = false) : cntT l = 0 := by
  induction l with
  | nil => rfl
  | cons b r ih => rw [cntT, h b (by simp), ih fun c hc => h c (by simp [hc])]; rfl
theorem ful_nobody (v : Int) (hs : List (List Hd)) {o : List Tx} {u : Bool} {x : Ex} (hx : okX o u x = true) : fulF v hs [] x = false := by
  refine ful_ind (g := fun _ => false) (q := okX o u) (fun _ h _ hy => okX_sub h hy) (fun x hx ih => ?_) _ x (Nat.lt_succ_self _) hx
  have htop := okX_top hx
  have hk := okF_kind htop
  have hall : ∀ b ∈ x.l.map (fulF v hs []), b = false := fun b hb => by
    obtain ⟨y, hy, rfl⟩ := List.mem_map.1 hb
    exact ih y hy
  rw [fulF_eq, any_nil, sum_nil, cnt_false hall]
  obtain e | e | e | e : x.k = 1 ∨ x.k = 2 ∨ x.k = 3 ∨ x.k = 4 := by omega
  · rw [if_pos e]
  · have := okF_weight htop e
    rw [if_neg (by omega), if_pos e, decide_eq_false (by omega)]
  · have := okF_of htop e
    rw [if_neg (by omega), if_neg (by omega), if_pos e, decide_eq_false (by omega)]
  · rw [if_neg (by omega), if_neg (by omega), if_neg (by omega), List.getD_eq_getElem?_getD]
    cases hg : (x.l.map (fulF v hs []))[if v ≤ x.n then 0 else 1]? with
    | none => rfl
    | some b => exact hall b (List.mem_of_getElem? hg)
/-! ### Weights of 1 -/
def lineW (l : List Hd) : List Hd := l.map fun y => ⟨y.person, 1⟩
def flatF (hs : List (List Hd)) : List (List Hd) := hs.map lineW
mutual
def weighF : Ex → Bool
  | .mk k _ _ _ l => weighFs l || decide (k = 2)
def weighFs : List Ex → Bool
  | [] => false
  | x :: r => weighF x || weighFs r
end
theorem weighFs_any (l : List Ex) : weighFs l = l.any weighF := by
  induction l with
  | nil => rfl
  | cons x r ih => rw [weighFs, ih, List.any_cons]
theorem weighF_eq (x : Ex) : weighF x = (x.l.any weighF || decide (x.k = 2)) := by cases x; rw [weighF, weighFs_any]; rfl
theorem row_flat (hs : List (List Hd)) (no : Int) : rowH (flatF hs) no = lineW (rowH hs no) := by
  rw [rowH, rowH, List.getD_eq_getElem?_getD, List.getD_eq_getElem?_getD, flatF, List.getElem?_map]
  cases hs[no.toNat]? <;> rfl
theorem any_lineW (who : List Int) (l : List Hd) : anyH who (lineW l) = anyH who l := by
  rw [anyH, anyH, lineW, List.any_map]; rfl
theorem ful_flat (v : Int) (hs : List (List Hd)) (who : List Int) {x : Ex} (hx : weighF x = false) : fulF v (flatF hs) who x = fulF v hs who x := by
  refine ful_ind (q := fun x => !weighF x) (fun x h y hy => ?_) (fun x hx ih => ?_) _ x (Nat.lt_succ_self _) (by rw [hx]; rfl)
  · rw [weighF_eq, Bool.not_eq_true', Bool.or_eq_false_iff, List.any_eq_false] at h
    have := h.1 y hy
    rw [Bool.not_eq_true] at this
    rw [this]; rfl
  · rw [weighF_eq, Bool.not_eq_true', Bool.or_eq_false_iff, decide_eq_false_iff_not] at hx
    rw [fulF_eq, fulF_eq v hs, row_flat, any_lineW, List.map_congr_left ih, if_neg hx.2, if_neg hx.2]
theorem flat_holders {hs : List (List Hd)} {n : Int} (h : holdersF hs n = true) : holdersF (flatF hs) n = true := by
  rw [holdersF, Bool.and_eq_true, List.all_eq_true] at h ⊢
  refine ⟨fun l hl => ?_, by rw [flatF, List.length_map]; exact h.2⟩
  obtain ⟨l0, h0, rfl⟩ := List.mem_map.1 hl
  have := h.1 l0 h0
  rw [lineF, Bool.and_eq_true] at this ⊢
  refine ⟨?_, ?_⟩
  · rw [lineW, List.all_map, List.all_eq_true]; intro y _; rfl
  · rw [lineW, List.map_map]; exact this.2
end Go.Proofs.YtplllkjobpjaoaaDoor
