/- Texts joined: CmpQ. No conditions. -/
import Derived.Test.YtelehpccfaedjaaMrBA
/- Gates that need more, gates with a further element, in plain lists. No conditions. -/
set_option linter.unusedSimpArgs false
set_option linter.unusedVariables false
namespace Go.Proofs.Ytelehpccfaedjaa
open Go Go.Proofs Go.Abs

theorem cnt_less (W : Int → Bool) : ∀ (l : List Gt) (n m : Int), 1 ≤ m → m ≤ n → cntF W l n = true → cntF W l m = true
  | [], n, m, _, _, h => by simp [cntF] at h
  | x :: r, n, m, h1, h2, h => by
    rw [cntF] at h ⊢
    split
    · rename_i hx
      rw [if_pos hx] at h
      split
      · rfl
      · rename_i hm
        rw [if_neg (by omega)] at h
        exact cnt_less W r (n - 1) (m - 1) (by omega) (by omega) h
    · rename_i hx
      rw [if_neg hx] at h
      exact cnt_less W r n m h1 h2 h
theorem cnt_app (W : Int → Bool) (y : Gt) : ∀ (l : List Gt) (n : Int), cntF W l n = true → cntF W (l ++ [y]) n = true
  | [], n, h => by simp [cntF] at h
  | x :: r, n, h => by
    rw [List.cons_append, cntF]
    rw [cntF] at h
    split
    · rename_i hx
      rw [if_pos hx] at h
      split
      · rfl
      · rename_i hn
        rw [if_neg hn] at h
        exact cnt_app W y r (n - 1) h
    · rename_i hx
      rw [if_neg hx] at h
      exact cnt_app W y r n h
theorem perm_gate {n : Int} {l : List Gt} {s : List Int} (h : checkF (.mk (-1) n l) = 0) (hs : ascF (-1) s = true) : permF (.mk (-1) n l) s = cntF (fun p => decide (p ∈ s)) l n := by
  rw [(permF_asc h hs).2, holdsF, if_neg (by omega)]
theorem gate_n {n : Int} {l : List Gt} (h : checkF (.mk (-1) n l) = 0) : 1 ≤ n ∧ n ≤ 4096 := by
  have := checkF_right h
  rw [rightF, if_neg (by omega)] at this
  simp only [Bool.and_eq_true, decide_eq_true_eq] at this
  omega
theorem strict_permits {n m : Int} {l : List Gt} (h1 : checkF (.mk (-1) n l) = 0) (h2 : checkF (.mk (-1) m l) = 0) (h : n ≤ m) : permits (.mk (-1) n l) (.mk (-1) m l) := fun s hs hp => by
  rw [perm_gate h2 hs] at hp
  rw [perm_gate h1 hs]
  exact cnt_less _ _ _ _ (gate_n h1).1 h hp
theorem wide_permits {n : Int} {l : List Gt} {x : Gt} (h1 : checkF (.mk (-1) n l) = 0) (h2 : checkF (.mk (-1) n (l ++ [x])) = 0) : permits (.mk (-1) n (l ++ [x])) (.mk (-1) n l) := fun s hs hp => by
  rw [perm_gate h1 hs] at hp
  rw [perm_gate h2 hs]
  exact cnt_app _ _ _ _ hp
end Go.Proofs.Ytelehpccfaedjaa
