/- Texts joined: MinK, MinL, MinM. No conditions. -/
import Derived.Test.YtelehpccfaedjaaMrR
import Derived.Test.YtelehpccfaedjaaMrL
/- The law's own examples. No conditions. -/
set_option linter.unusedSimpArgs false
set_option linter.unusedVariables false
namespace Go.Proofs.Ytelehpccfaedjaa
open Go Go.Proofs Go.Abs

def lfV (x : Int) : AV := .agg [.int .i64 x, .int .i64 0, .sl [] .full]
structure FrS where
  don : List Int
  own : Abs.Own
  j : AH
def ofG (n : Int) (l : List Int) : Gt := .mk (-1) n (l.map lf)
theorem sh_of (n : Int) (l : List Int) (h0 : -9223372036854775808 ≤ n ∧ n ≤ 9223372036854775807) (hl : l.length ≤ 1000000) (h : ∀ x ∈ l, 0 ≤ x ∧ x < 1000) : Sh (ofG n l) :=
  .mk (by simp; omega) (fun x hx => by obtain ⟨y, hy, rfl⟩ := List.mem_map.1 hx; have := h y hy; exact sh_lf _ (by omega) (by omega)) (by decide) (by decide) h0.1 h0.2
theorem errN {g : Gt} {b : Bool} {l : List (List Int)} (h : smallR g b = (l, 0)) : errF g = 0 := by
  by_cases he : errF g = 0
  · exact he
  · rw [smallR, if_neg he] at h; exact (Prod.mk.injEq .. ▸ h).2
structure Ex24 where
  g : Gt
  l : List (List Int)
  m : List (List Int)
def ex24 : List Ex24 := [⟨ofG 2 [1, 2, 3], [[1, 2], [1, 3], [2, 3]], [[1, 2], [1, 3], [2, 3]]⟩, ⟨lf 5, [[5]], [[5]]⟩, ⟨ofG 1 [], [], [[]]⟩, ⟨ofG 2 [1, 2], [[1, 2]], [[1], [2]]⟩, ⟨ofG 1 [1, 2], [[1], [2]], [[1, 2]]⟩, ⟨ofG 2 [1, 1, 2], [[1]], [[1]]⟩]
theorem ex24_facts : ∀ x ∈ ex24, smallR x.g false = (x.l, 0) ∧ smallR x.g true = (x.m, 0) ∧ agrF x.g x.l x.m = (true, 0) ∧ x.l.length ≤ 3 ∧ x.m.length ≤ 3 ∧ (∀ s ∈ x.l, s.length ≤ 3) ∧ ∀ s ∈ x.m, s.length ≤ 3 := by
  have h : (ex24.all fun x => decide (smallR x.g false = (x.l, 0) ∧ smallR x.g true = (x.m, 0) ∧ agrF x.g x.l x.m = (true, 0) ∧ x.l.length ≤ 3 ∧ x.m.length ≤ 3 ∧ (∀ s ∈ x.l, s.length ≤ 3) ∧ ∀ s ∈ x.m, s.length ≤ 3)) = true := by decide +kernel
  intro x hx
  exact of_decide_eq_true (List.all_eq_true.1 h x hx)
theorem sh_ex : ∀ x ∈ ex24, Sh x.g := by
  simp only [ex24, List.mem_cons, List.not_mem_nil, or_false]
  rintro x (rfl | rfl | rfl | rfl | rfl | rfl)
  · exact sh_of _ _ (by decide) (by decide) (by decide)
  · exact sh_lf _ (by decide) (by decide)
  · exact sh_of _ _ (by decide) (by decide) (by decide)
  · exact sh_of _ _ (by decide) (by decide) (by decide)
  · exact sh_of _ _ (by decide) (by decide) (by decide)
  · exact sh_of _ _ (by decide) (by decide) (by decide)
end Go.Proofs.Ytelehpccfaedjaa

/- The laws MinimalSpec and MinimalAgreeSpec: the code. No conditions. -/
set_option linter.unusedSimpArgs false
set_option linter.unusedVariables false
namespace Go.Proofs.Ytelehpccfaedjaa
open Go Go.Proofs Go.Abs

theorem small_le (g : Gt) (b : Bool) : (smallR g b).1.length ≤ 256 := by
  rw [smallR]
  split
  · split
    · simp
    · simp only; omega
  · simp
theorem small_in {g : Gt} {b : Bool} {s : List Int} (h : s ∈ (smallR g b).1) : s.length ≤ 12 := by
  rw [smallR] at h
  split at h
  · rename_i he
    obtain ⟨hck, _, hn⟩ := errF_facts he
    split at h
    · simp at h
    · have := ((mem_mins (ppl_lt hck) s).1 h).1.length_le; omega
  · simp at h
end Go.Proofs.Ytelehpccfaedjaa

/- The law MinimalBoth: the code. No conditions. -/
set_option linter.unusedSimpArgs false
set_option linter.unusedVariables false
namespace Go.Proofs.Ytelehpccfaedjaa
open Go Go.Proofs Go.Abs

/-- Is a formula looked at? -/
def useF (g : Gt) : Bool := smallF g && decide (errF g = 0) && decide ((setsF g).length ≤ 256) && decide ((blksF g).length ≤ 256)
structure UseOK (g : Gt) : Prop where
  e : errF g = 0
  c : checkF g = 0
  lv : allLeaves g ≤ 256
  n : (pplF g).length ≤ 12
  p : (pplF g).Pairwise (· < ·)
  s : (setsF g).length ≤ 256
  b : (blksF g).length ≤ 256
theorem use_ok {g : Gt} (h : useF g = true) : UseOK g := by
  simp only [useF, Bool.and_eq_true, decide_eq_true_eq] at h
  obtain ⟨⟨⟨h1, h2⟩, h3⟩, h4⟩ := h
  obtain ⟨k1, k2, k3⟩ := errF_facts h2
  exact ⟨h2, k1, k2, k3, ppl_lt k1, h3, h4⟩
theorem sets_in {g : Gt} (h : UseOK g) {s : List Int} (hs : s ∈ setsF g) : s.Sublist (pplF g) ∧ s.length ≤ 12 := by
  have h1 := ((mem_mins h.p s).1 hs).1
  exact ⟨h1, by have := h1.length_le; have := h.n; omega⟩
theorem blks_in {g : Gt} (h : UseOK g) {s : List Int} (hs : s ∈ blksF g) : s.Sublist (pplF g) ∧ s.length ≤ 12 := by
  have h1 := ((mem_mins h.p s).1 hs).1
  exact ⟨h1, by have := h1.length_le; have := h.n; omega⟩
def listsV (g : Gt) : AV := if useF g then .tuple [.sl (encII (setsF g)) .free, .sl (encII (blksF g)) .free, .bool true, .bool true] else .tuple [.sl [] .free, .sl [] .free, .bool false, .bool true]
end Go.Proofs.Ytelehpccfaedjaa
