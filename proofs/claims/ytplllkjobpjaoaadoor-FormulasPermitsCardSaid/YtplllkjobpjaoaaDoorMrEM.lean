/- Texts joined: PerM. No conditions. -/
import Derived.Test.YtplllkjobpjaoaaDoorMrEL
import Derived.Test.YtplllkjobpjaoaaDoorMrG
/- PermitsNobody, the code. No conditions. -/
set_option linter.unusedSimpArgs false
set_option linter.unusedVariables false
namespace Go.Proofs.YtplllkjobpjaoaaDoor
open Go Go.Proofs Go.Abs

theorem fz_ptr {i j o : Nat} {cs : List AV} (h : j ≠ i) : fzV i cs (.ptr (some (j, o))) = .ptr (some (j, o)) := by rw [fzV, if_neg h]
theorem fzL_maps {α : Type} {i : Nat} {cs : List AV} (f : α → AV) (H : ∀ x, fzV i cs (f x) = f x) (l : List α) : fzL i cs (l.map f) = l.map f := by
  rw [fzL_map, List.map_map]; exact List.map_congr_left fun x _ => H x
theorem fz_I (i : Nat) (cs : List AV) (l : List Int) : fzL i cs (encI l) = encI l := fzL_maps _ (fun _ => rfl) l
theorem fz_Hs (i : Nat) (cs : List AV) (l : List Hd) : fzL i cs (l.map encHd) = l.map encHd := fzL_maps _ (fun _ => rfl) l
theorem fz_HH (i : Nat) (cs : List AV) (hs : List (List Hd)) : fzL i cs (encHl hs) = encHl hs := fzL_maps _ (fun l => by show AV.sl (fzL i cs (l.map encHd)) .free = _; rw [fz_Hs]) hs
theorem fz_whole (i N : Nat) (cs : List AV) (h1 : cs.length = N) (h2 : ∀ c ∈ cs, c.isAgg = false) : fzV i cs (.ms i 0 N N 1) = .sl cs .free := by
  have hok : fzOK cs 0 N N 1 = true := by
    simp only [fzOK, Bool.and_eq_true, decide_eq_true_eq, List.all_eq_true, Bool.not_eq_true']
    exact ⟨⟨⟨by omega, by omega⟩, by decide⟩, h2⟩
  rw [fzV, if_pos ⟨rfl, hok⟩, List.drop_zero, rowsOf_one _ _ (by omega), ← h1, List.take_length]
theorem looseL_app (a b : List AV) : looseL (a ++ b) = looseL a ++ looseL b := by
  induction a with
  | nil => simp [looseL]
  | cons x r ih => simp only [List.cons_append, looseL, ih]
def flC (D : List AV) (n : Nat) : List AV := D ++ List.replicate n (.sl [] .full)
end Go.Proofs.YtplllkjobpjaoaaDoor
