/- The program's answers are the reference's. Plain. -/
import Derived.Test.YtopiamdfnaejeaaLivG
set_option linter.unusedSimpArgs false
set_option linter.unusedVariables false
namespace Go.Proofs.Ytopiamdfnaejeaa
open Go Go.Proofs Go.Abs

theorem putF_mem (p : Int) : ∀ l : List Int, l.Pairwise (· ≤ ·) → p ∈ l → putF p l = l
  | [], _, h => by simp at h
  | y :: r, hs, h => by
    rw [List.pairwise_cons] at hs
    rw [putF]
    split
    · rename_i h1
      have : p ∈ r := by rcases List.mem_cons.1 h with h | h; · omega
                         · exact h
      rw [putF_mem p r hs.2 this]
    · rename_i h1
      split
      · rfl
      · rename_i h2
        rcases List.mem_cons.1 h with h | h
        · omega
        · have := hs.1 p h; omega
theorem putF_perm (p : Int) : ∀ l : List Int, p ∉ l → (putF p l).Perm (p :: l)
  | [], _ => .refl _
  | y :: r, h => by
    rw [putF]
    split
    · exact ((putF_perm p r (fun e => h (List.mem_cons_of_mem _ e))).cons y).trans (.swap p y r)
    · split
      · rename_i h2; subst h2; exact absurd (List.mem_cons_self ..) h
      · exact .refl _
theorem putF_bd (p b : Int) (hb : b ≤ p) : ∀ l : List Int, (∀ x ∈ l, b ≤ x) → ∀ x ∈ putF p l, b ≤ x
  | [], _, x, hx => by simp [putF] at hx; omega
  | y :: r, h, x, hx => by
    rw [putF] at hx
    split at hx
    · rcases List.mem_cons.1 hx with rfl | hx
      · exact h _ (by simp)
      · exact putF_bd p b hb r (fun z hz => h z (by simp [hz])) x hx
    · split at hx
      · exact h x hx
      · rcases List.mem_cons.1 hx with rfl | hx
        · exact hb
        · exact h x hx
theorem putF_le (p : Int) : ∀ l : List Int, l.Pairwise (· ≤ ·) → (putF p l).Pairwise (· ≤ ·)
  | [], _ => by simp [putF]
  | y :: r, hs => by
    have hs0 := hs
    rw [List.pairwise_cons] at hs
    rw [putF]
    split
    · rename_i h1
      rw [List.pairwise_cons]
      exact ⟨putF_bd p y (by omega) r hs.1, putF_le p r hs.2⟩
    · split
      · exact hs0
      · rw [List.pairwise_cons]
        refine ⟨fun z hz => ?_, hs0⟩
        rcases List.mem_cons.1 hz with rfl | hz
        · omega
        · have := hs.1 z hz; omega
theorem put_sort (p : Int) (ks : List Int) : putF p (sortI ks) = sortI (addK p ks) := by
  unfold addK
  split
  · rename_i h
    exact putF_mem p _ (sortI_le ks) ((sortI_perm ks).mem_iff.2 h)
  · rename_i h
    refine sortI_of (putF_le p _ (sortI_le ks)) ?_
    refine (putF_perm p _ (fun e => h ((sortI_perm ks).mem_iff.1 e))).trans ?_
    refine ((sortI_perm ks).cons p).trans ?_
    exact (List.perm_append_comm (l₁ := ks) (l₂ := [p])).symm
mutual
theorem gath_keys : ∀ (g : Gt) (ks : List Int), rightF g = true → gathF (sortI ks) g = sortI (keysF ks g)
  | .mk p n l, ks, h => by
    rw [gathF, keysF]
    split
    · rename_i hp
      simp only [rightF, if_pos hp, Bool.and_eq_true, List.isEmpty_iff] at h
      rw [h.2, keysL, put_sort]
    · rename_i hp
      simp only [rightF, if_neg hp, Bool.and_eq_true] at h
      exact gath_keysL l ks h.2
theorem gath_keysL : ∀ (l : List Gt) (ks : List Int), rightL l = true → gathL (sortI ks) l = sortI (keysL ks l)
  | [], _, _ => rfl
  | x :: r, ks, h => by
    simp only [rightL, Bool.and_eq_true] at h
    rw [gathL, keysL, gath_keys x ks h.1, gath_keysL r _ h.2]
end
theorem peo_ppl {g : Gt} (h : rightF g = true) : peoF g = pplF g := (gath_keys g [] h).symm
theorem lerr_eq (g : Gt) (al : List Int) : lerrF g al = err51F g al := by
  unfold lerrF err51F errF
  by_cases h : checkF g = 0
  · have hl : (pplF g).length = (keysF [] g).length := by rw [← peo_ppl (checkF_right h)]; exact (sortI_perm _).length_eq
    rw [if_pos h, if_pos h, hl]
    by_cases h2 : 12 < (keysF [] g).length
    · have h3 : (12 : Int) < ((keysF [] g).length : Int) := by omega
      simp [h2, h3]
    · have h3 : ¬ (12 : Int) < ((keysF [] g).length : Int) := by omega
      simp [h2, h3]
  · rw [if_neg h, if_neg h, if_neg h]
theorem ppl_of_err {g : Gt} {al : List Int} (h : err51F g al = 0) : peoF g = pplF g := by
  rw [← lerr_eq] at h
  exact peo_ppl (checkF_right (lerr_len h).1)
theorem liv_eq (g : Gt) (al : List Int) : livP g al = livR g al := by
  unfold livP livR
  rw [lerr_eq]
  split
  · rename_i h; rw [ppl_of_err h]
  · rfl
theorem mar_eq (g : Gt) (al : List Int) : marP g al = marR g al := by
  unfold marP marR
  rw [lerr_eq]
  split
  · rename_i h; rw [ppl_of_err h]
  · rfl
theorem dea_eq (g : Gt) (al : List Int) : deaP g al = deaR g al := by
  unfold deaP deaR
  rw [lerr_eq]
  split
  · rename_i h; rw [ppl_of_err h]
  · rfl

/-! ### The law's own examples -/
def lf (n : Int) : Gt := .mk n 0 []
def twoG : Gt := .mk (-1) 2 [lf 1, lf 2, lf 3]
theorem ex1 : livP twoG [2, 3] = ([2, 3], true, 0) ∧ marP twoG [2, 3] = ([2], true, 0) ∧ deaP twoG [2, 3] = ([], false, 0) := by decide +kernel
end Go.Proofs.Ytopiamdfnaejeaa
