/- Texts joined: PerN. No conditions. -/
import Derived.Test.YtplllkjobpjaoaaDoorMrEM
/- PermitsParts. No conditions. -/
set_option linter.unusedSimpArgs false
set_option linter.unusedVariables false
namespace Go.Proofs.YtplllkjobpjaoaaDoor
open Go Go.Proofs Go.Abs

theorem fz_X (i : Nat) (cs : List AV) : ∀ x : Ex, fzV i cs (encX x) = encX x
  | .mk k n no s l => by
    rw [encX_mk]
    show AV.agg [.int .i64 k, .int .i64 n, .int .i64 no, .str ⟨⟨s⟩⟩, .sl (fzL i cs (l.map encX)) .free] = _
    have : fzL i cs (l.map encX) = l.map encX := by
      rw [fzL_map, List.map_map]
      exact List.map_congr_left fun x hx => fz_X i cs x
    rw [this]
theorem fz_Xs (i : Nat) (cs : List AV) (l : List Ex) : fzL i cs (l.map encX) = l.map encX := fzL_maps _ (fz_X i cs) l
theorem fz_T (i : Nat) (cs : List AV) (l : List Tx) : fzL i cs (encT l) = encT l := fzL_maps _ (fun _ => rfl) l
def cRl (r : Rl) : List AV := (encRl r).cells
theorem cRl_len (r : Rl) : (cRl r).length = 8 := by rw [cRl, encRl_cells]; rfl
theorem cRl_eq (r : Rl) : cRl r = [.str ⟨⟨r.kind⟩⟩, .int .i64 r.kno, .int .i64 r.think, .int .i64 r.x.k, .int .i64 r.x.n, .int .i64 r.x.no, .str ⟨⟨r.x.name⟩⟩, .sl (r.x.l.map encX) .free] := encRl_cells r
def setX (r : Rl) (x : Ex) : Rl := { r with x := x }
/-- A policy whose rule for a kind has another expression. -/
def insteadF (p : Pol) (k : Nat) (x : Ex) : Pol := { p with rules := p.rules.set k (setX (p.rules.getD k ⟨[], 0, 0, .mk 0 0 0 [] []⟩) x) }
def insK (h : AH) (p : Pol) (x : Ex) (R : AV) : AH := h ++ [.row [.str ⟨⟨p.name⟩⟩, .sl (encT p.kinds) .free, .sl (encT p.offices) .free, R, .int .i64 p.change.k, .int .i64 p.change.n, .int .i64 p.change.no, .str ⟨⟨p.change.name⟩⟩, .sl (p.change.l.map encX) .free, .int .i64 p.mode] 28, .row [.int .i64 x.k, .int .i64 x.n, .int .i64 x.no, .str ⟨⟨x.name⟩⟩, .sl (x.l.map encX) .free] 26, .row [.str ⟨#[]⟩, .sl [] .full, .sl [] .full, .sl [] .full, .int .i64 0, .int .i64 0, .int .i64 0, .str ⟨#[]⟩, .sl [] .full, .int .i64 0] 28]
end Go.Proofs.YtplllkjobpjaoaaDoor
