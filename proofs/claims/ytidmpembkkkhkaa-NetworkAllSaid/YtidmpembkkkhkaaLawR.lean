/- The statement on cutting: what its code hands back. No conditions. -/
import Derived.Test.YtidmpembkkkhkaaLawP
set_option linter.unusedSimpArgs false
set_option linter.unusedVariables false
namespace Go.Proofs.Ytidmpembkkkhkaa
open Go Go.Proofs Go.Abs

theorem ltL_trans {a b c : Int × Int} (h1 : ltL a b = true) (h2 : ltL b c = true) : ltL a c = true := by
  simp only [ltL, Bool.or_eq_true, Bool.and_eq_true, decide_eq_true_eq] at *
  omega
theorem ltL_irrefl (a : Int × Int) : ltL a a = false := by simp [ltL]
theorem links_some (p : Int × Int) (l : List (Int × Int)) : linksF (some p) l = true ↔ (∀ x ∈ l, validF x = true) ∧ (∀ x ∈ l, ltL p x = true) ∧ l.Pairwise (fun a b => ltL a b = true) := by
  induction l generalizing p with
  | nil => simp [linksF]
  | cons x r ih =>
    simp only [linksF, okP, Bool.and_eq_true, ih x, List.mem_cons, forall_eq_or_imp, List.pairwise_cons]
    constructor
    · rintro ⟨⟨h1, h2⟩, h3, h4, h5⟩
      exact ⟨⟨h1, h3⟩, ⟨h2, fun y hy => ltL_trans h2 (h4 y hy)⟩, h4, h5⟩
    · rintro ⟨⟨h1, h3⟩, ⟨h2, _⟩, h4, h5⟩
      exact ⟨⟨h1, h2⟩, h3, h4, h5⟩
theorem links_none (l : List (Int × Int)) : linksF none l = true ↔ (∀ x ∈ l, validF x = true) ∧ l.Pairwise (fun a b => ltL a b = true) := by
  cases l with
  | nil => simp [linksF]
  | cons x r =>
    simp only [linksF, okP, Bool.and_true, Bool.and_eq_true, links_some, List.mem_cons, forall_eq_or_imp, List.pairwise_cons]
    constructor
    · rintro ⟨h1, h3, h4, h5⟩; exact ⟨⟨h1, h3⟩, h4, h5⟩
    · rintro ⟨⟨h1, h3⟩, h4, h5⟩; exact ⟨h1, h3, h4, h5⟩
theorem pairs_links : linksF none (pairsP 0 24) = true := by decide +kernel
theorem cut_links (a : List (Int × Int)) (c : Int × Int) (on : Bool) : linksF none (cutL a c on) = true := by
  obtain ⟨h1, h2⟩ := (links_none _).1 pairs_links
  exact (links_none _).2 ⟨fun x hx => h1 x (List.mem_filter.1 hx).1, h2.filter _⟩
theorem cut_check {n : Nt} (h : checkF n = 0) (c : Int × Int) (on : Bool) : checkF ⟨n.q, cutL n.a c on⟩ = 0 := by
  obtain ⟨h1, h2, h3⟩ := (check0 n).1 h
  exact (check0 _).2 ⟨h1, h2, cut_links _ _ _⟩
theorem cut_cut (a : List (Int × Int)) (c : Int × Int) (on on' : Bool) : cutL (cutL a c on) c on' = cutL a c on' := by
  unfold cutL
  refine List.filter_congr fun z hz => ?_
  simp only [keepL]
  split
  · rfl
  · rename_i hne
    simp [List.mem_filter, hz, keepL, hne]
theorem cut0 {n : Nt} {a b : Int} (on : Bool) (h : checkF n = 0) (hv : validF (betw a b) = true) : cutF n a b on = (⟨n.q, cutL n.a (betw a b) on⟩, 0) := by simp [cutF, h, hv]
theorem filter_one {L : List (Int × Int)} (hL : L.Nodup) (a : List (Int × Int)) (c : Int × Int) : (L.filter (keepL a c true)).length = (L.filter (keepL a c false)).length + (if c ∈ L then 1 else 0) := by
  induction L with
  | nil => simp
  | cons x r ih =>
    obtain ⟨h1, h2⟩ := List.nodup_cons.1 hL
    have ih := ih h2
    by_cases e : x = c
    · subst e
      rw [if_neg h1] at ih
      simp [List.filter_cons, keepL, ih]
    · have e' : ¬ c = x := fun h => e h.symm
      simp only [List.filter_cons, List.mem_cons, e', false_or]
      have k1 : keepL a c true x = decide (x ∈ a) := by simp [keepL, e]
      have k2 : keepL a c false x = decide (x ∈ a) := by simp [keepL, e]
      rw [k1, k2]
      split <;> simp [ih]; omega
theorem pairs_nodup : (pairsP 0 24).Nodup := by
  obtain ⟨_, h2⟩ := (links_none _).1 pairs_links
  exact h2.imp fun {a b} h e => by subst e; rw [ltL_irrefl] at h; cases h
theorem cut_one (a : List (Int × Int)) {c : Int × Int} (hv : validF c = true) : (cutL a c true).length = (cutL a c false).length + 1 := by
  unfold cutL
  rw [filter_one pairs_nodup, if_pos]
  rw [mem_pairsP 24 0 c rfl]
  have := (validF_iff c).1 hv
  exact ⟨by omega, this.2.1, this.2.2⟩
end Go.Proofs.Ytidmpembkkkhkaa
