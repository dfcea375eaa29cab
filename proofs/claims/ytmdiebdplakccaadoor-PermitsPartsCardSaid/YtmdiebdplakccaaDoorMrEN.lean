/- Texts joined: PerN. No conditions. -/
import Derived.Test.YtmdiebdplakccaaDoorMrEM
/- PermitsParts. No conditions. -/
set_option linter.unusedSimpArgs false
set_option linter.unusedVariables false
namespace Go.Proofs.YtmdiebdplakccaaDoor
open Go Go.Proofs Go.Abs

theorem fz_X (i : Nat) (cs : List AV) : ∀ x : Ex, fzV i cs (encX x) = encX x
  | .mk k n no s l => by
    rw [encX_mk]
    show AV.agg [.int .i64 k, .int .i64 n, .int .i64 no, .str ⟨⟨s⟩⟩, .sl (fzL i cs (l.map encX)) .free] = _
    have : fzL i cs (l.map encX) = l.map encX := by
      rw [fzL_map, List.map_map]
      exact List.map_congr_left fun x hx => fz_X i cs x
    rw [this]
theorem fz_Xs (i : Nat) (cs : List AV) (l : List Ex) : fzL i cs (l.map encX) = l.map encX := fzL_maps _ (fz_X i cs) l
theorem fz_T (i : Nat) (cs : List AV) (l : List Tx) : fzL i cs (encT l) = encT l := fzL_maps _ (fun _ => rfl) l
def cRl (r : Rl) : List AV := (encRl r).cells
theorem cRl_len (r : Rl) : (cRl r).length = 8 := by rw [cRl, encRl_cells]; rfl
theorem cRl_eq (r : Rl) : cRl r = [.str ⟨⟨r.kind⟩⟩, .int .i64 r.kno, .int .i64 r.think, .int .i64 r.x.k, .int .i64 r.x.n, .int .i64 r.x.no, .str ⟨⟨r.x.name⟩⟩, .sl (r.x.l.map encX) .free] := encRl_cells r
def setX (r : Rl) (x : Ex) : Rl := { r with x := x }
/-- A policy whose rule for a kind has another expression. -/
def insteadF (p : Pol) (k : Nat) (x : Ex) : Pol := { p with rules := p.rules.set k (setX (p.rules.getD k ⟨[], 0, 0, .mk 0 0 0 [] []⟩) x) }
def insK (h : AH) (p : Pol) (x : Ex) (R : AV) : AH := h ++ [.row [.str ⟨⟨p.name⟩⟩, .sl (encT p.kinds) .free, .sl (encT p.offices) .free, R, .int .i64 p.change.k, .int .i64 p.change.n, .int .i64 p.change.no, .str ⟨⟨p.change.name⟩⟩, .sl (p.change.l.map encX) .free, .int .i64 p.mode] 28, .row [.int .i64 x.k, .int .i64 x.n, .int .i64 x.no, .str ⟨⟨x.name⟩⟩, .sl (x.l.map encX) .free] 26, .row [.str ⟨#[]⟩, .sl [] .full, .sl [] .full, .sl [] .full, .int .i64 0, .int .i64 0, .int .i64 0, .str ⟨#[]⟩, .sl [] .full, .int .i64 0] 28]
set_option maxHeartbeats 1600000 in
set_option maxRecDepth 100000 in
theorem instead_calls (Γ : Nat → Option (List AV)) (p : Pol) (k : Nat) (x : Ex) (h : AH) (hk : k < p.rules.length) (hl : p.rules.length ≤ 100) :
    ACalls Tryd.prog Γ 16 [encPol p, .int .i64 k, encX x] h fun v h' => h' = h ∧ v = encPol (insteadF p k x) := by
  refine ACalls.dropL ?_
  rw [encPol_eq, encX_eq]
  refine acalls_of_awp (rs := [.cell 6 28]) Tryd.func16 rfl rfl rfl rfl ?_
  refine AWP.mark2 (by decide) ?_
  refine awp_seq (aCode_ok Ty.mixed _ _ _ _ (by kernel_rfl) ?_)
  simp (disch := omega) only [go_sem, seval]
  refine awp_seq (aCode_ok Ty.mixed _ _ _ _ (by kernel_rfl) ?_)
  simp (disch := omega) only [go_sem, seval]
  have hne : p.rules ≠ [] := fun e => by rw [e] at hk; cases hk
  have hflat : flat (p.rules.map encRl) = p.rules.flatMap cRl := by
    rw [flat, List.flatMap_map]; rfl
  obtain ⟨r0, hr0⟩ : ∃ r0, p.rules[k]? = some r0 := ⟨_, List.getElem?_eq_getElem hk⟩
  have hgd : p.rules.getD k ⟨[], 0, 0, .mk 0 0 0 [] []⟩ = r0 := by rw [List.getD_eq_getElem?_getD, hr0]; rfl
  obtain ⟨rs2, hrs2⟩ : ∃ rs2, rs2 = p.rules.set k (setX r0 x) := ⟨_, rfl⟩
  have hK : h ++ [.row [.str ⟨⟨p.name⟩⟩, .sl (encT p.kinds) .free, .sl (encT p.offices) .free, .sl (p.rules.map encRl) .free, .int .i64 p.change.k, .int .i64 p.change.n, .int .i64 p.change.no, .str ⟨⟨p.change.name⟩⟩, .sl (p.change.l.map encX) .free, .int .i64 p.mode] 28, .row [.int .i64 x.k, .int .i64 x.n, .int .i64 x.no, .str ⟨⟨x.name⟩⟩, .sl (x.l.map encX) .free] 26, .row [.str ⟨#[]⟩, .sl [] .full, .sl [] .full, .sl [] .full, .int .i64 0, .int .i64 0, .int .i64 0, .str ⟨#[]⟩, .sl [] .full, .int .i64 0] 28] = insK h p x (.sl (p.rules.map encRl) .free) := rfl
  rw [hK, ← List.append_nil (insK h p x (.sl (p.rules.map encRl) .free))]
  refine aApM_C (enc := cRl) (n := 8) (by_ := 96) (l := []) (l2 := p.rules) (j := []) (q := 0) cRl_len (by decide) (.inl ⟨rfl, rfl⟩) ?_ (rowsOK_R _) hflat (by simp) hne (by rw [List.length_nil, Nat.zero_add]; omega) (by rw [List.length_nil, Nat.zero_add]; omega) fun v' q' j' hv' _ _ _ _ => ?_
  · exact rfl
  rw [List.nil_append] at hv'
  obtain ⟨c, pad, rfl, hj, hc, hpad⟩ := hv'
  have hKl : ∀ R, (insK h p x R).length = h.length + 3 := fun R => by simp [insK]
  have g0 : ∀ R l, (insK h p x R ++ l)[h.length]? = some (.row [.str ⟨⟨p.name⟩⟩, .sl (encT p.kinds) .free, .sl (encT p.offices) .free, R, .int .i64 p.change.k, .int .i64 p.change.n, .int .i64 p.change.no, .str ⟨⟨p.change.name⟩⟩, .sl (p.change.l.map encX) .free, .int .i64 p.mode] 28) := fun R l => by simp [insK]
  have g1 : ∀ R l, (insK h p x R ++ l)[h.length + 1]? = some (.row [.int .i64 x.k, .int .i64 x.n, .int .i64 x.no, .str ⟨⟨x.name⟩⟩, .sl (x.l.map encX) .free] 26) := fun R l => by simp [insK]
  have g2 : ∀ R l, (insK h p x R ++ l)[h.length + 2]? = some (.row [.str ⟨#[]⟩, .sl [] .full, .sl [] .full, .sl [] .full, .int .i64 0, .int .i64 0, .int .i64 0, .str ⟨#[]⟩, .sl [] .full, .int .i64 0] 28) := fun R l => by simp [insK]
  have gj : ∀ R, (insK h p x R ++ j')[h.length + 3 + q']? = some (.row (cR cRl p.rules pad) 40) := fun R => by
    rw [List.getElem?_append_right (by rw [hKl]; omega), hKl, show h.length + 3 + q' - (h.length + 3) = q' by omega]; exact hj
  have s0 : ∀ R R2 l, (insK h p x R ++ l).set h.length (.row [.str ⟨⟨p.name⟩⟩, .sl (encT p.kinds) .free, .sl (encT p.offices) .free, R2, .int .i64 p.change.k, .int .i64 p.change.n, .int .i64 p.change.no, .str ⟨⟨p.change.name⟩⟩, .sl (p.change.l.map encX) .free, .int .i64 p.mode] 28) = insK h p x R2 ++ l := fun R R2 l => by simp [insK]
  have sj : ∀ R o, (insK h p x R ++ j').set (h.length + 3 + q') o = insK h p x R ++ j'.set q' o := fun R o => by
    rw [show h.length + 3 + q' = (insK h p x R).length + q' by rw [hKl], hset_add]
  rw [hKl]
  simp (disch := omega) only [go_sem, seval, g0, g1, g2, s0, hKl]
  refine awp_seq (aCode_ok Ty.mixed _ _ _ _ (by kernel_rfl) ?_)
  simp (disch := omega) only [go_sem, seval, g0, g1, g2, s0, hKl, gj]
  refine ⟨by omega, by rw [cR_len cRl_len]; omega, ?_⟩
  have hcr : List.take (0 + k * 8 + 3) (cR cRl p.rules pad) ++ [.int .i64 x.k, .int .i64 x.n, .int .i64 x.no, .str ⟨⟨x.name⟩⟩, .sl (x.l.map encX) .free] ++ List.drop (0 + k * 8 + 3 + 5) (cR cRl p.rules pad) = cR cRl rs2 pad := by
    have h1 := cR_drop cRl_len hr0 pad
    have h2 := cR_set cRl_len hk (setX r0 x) pad
    rw [hrs2, ← h2, show 0 + k * 8 + 3 = k * 8 + 3 by omega, List.take_add, h1, cRl_eq r0, cRl_eq (setX r0 x)]
    simp [setX]
  rw [hcr]
  obtain ⟨H, hH⟩ : ∃ H : AH, H = (insK h p x (.ms (h.length + 3 + q') 0 p.rules.length c 8) ++ j').set (h.length + 3 + q') (.row (cR cRl rs2 pad) 40) := ⟨_, rfl⟩
  rw [← hH]
  have hjl : q' < j'.length := (List.getElem?_eq_some_iff.1 hj).1
  have hHi : H[h.length + 3 + q']? = some (.row (cR cRl rs2 pad) 40) := by
    rw [hH, List.getElem?_set_self (by rw [List.length_append, hKl]; omega)]
  have hH0 : H[h.length]? = some (.row [.str ⟨⟨p.name⟩⟩, .sl (encT p.kinds) .free, .sl (encT p.offices) .free, .ms (h.length + 3 + q') 0 p.rules.length c 8, .int .i64 p.change.k, .int .i64 p.change.n, .int .i64 p.change.no, .str ⟨⟨p.change.name⟩⟩, .sl (p.change.l.map encX) .free, .int .i64 p.mode] 28) := by
    rw [hH, List.getElem?_set_ne (by omega)]; exact g0 _ _
  refine AWP.keep [3, 6] ?_
  simp (disch := omega) only [go_sem, seval]
  refine AWP.freeze hHi (Froze.row (Froze.set hHi) (j := h.length) (by omega) hH0) ?_
  have hfz : fzV (h.length + 3 + q') (cR cRl rs2 pad) (.ms (h.length + 3 + q') 0 p.rules.length c 8) = .sl (rs2.map encRl) .free := by
    have hlen : p.rules.length = rs2.length := by rw [hrs2, List.length_set]
    rw [hlen, fz_C cRl_len (by decide) (by decide) (by omega) hpad (fun r a ha => by
      rw [cRl_eq] at ha
      simp only [List.mem_cons, List.not_mem_nil, or_false] at ha
      rcases ha with rfl | rfl | rfl | rfl | rfl | rfl | rfl | rfl <;> rfl)]
    congr 1
  have hrow : fzL (h.length + 3 + q') (cR cRl rs2 pad) [.str ⟨⟨p.name⟩⟩, .sl (encT p.kinds) .free, .sl (encT p.offices) .free, .ms (h.length + 3 + q') 0 p.rules.length c 8, .int .i64 p.change.k, .int .i64 p.change.n, .int .i64 p.change.no, .str ⟨⟨p.change.name⟩⟩, .sl (p.change.l.map encX) .free, .int .i64 p.mode] = [.str ⟨⟨p.name⟩⟩, .sl (encT p.kinds) .free, .sl (encT p.offices) .free, .sl (rs2.map encRl) .free, .int .i64 p.change.k, .int .i64 p.change.n, .int .i64 p.change.no, .str ⟨⟨p.change.name⟩⟩, .sl (p.change.l.map encX) .free, .int .i64 p.mode] := by
    rw [fzL, fzL, fzL, fzL, hfz]
    simp only [fzL, fzV, fz_T, fz_Xs]
  rw [hrow]
  simp only [List.map_cons, List.map_nil]
  rw [fz_ptr (by omega), fz_ptr (by omega)]
  have hin : encPol (insteadF p k x) = .agg [.str ⟨⟨p.name⟩⟩, .sl (encT p.kinds) .free, .sl (encT p.offices) .free, .sl (rs2.map encRl) .free, .int .i64 p.change.k, .int .i64 p.change.n, .int .i64 p.change.no, .str ⟨⟨p.change.name⟩⟩, .sl (p.change.l.map encX) .free, .int .i64 p.mode] := by
    rw [encPol_eq, insteadF, hgd, ← hrs2]
  rw [hin]
  have hHe : (H.set (h.length + 3 + q') .frozen).set h.length (.row [.str ⟨⟨p.name⟩⟩, .sl (encT p.kinds) .free, .sl (encT p.offices) .free, .sl (rs2.map encRl) .free, .int .i64 p.change.k, .int .i64 p.change.n, .int .i64 p.change.no, .str ⟨⟨p.change.name⟩⟩, .sl (p.change.l.map encX) .free, .int .i64 p.mode] 28) = insK h p x (.sl (rs2.map encRl) .free) ++ j'.set q' .frozen := by
    rw [hH, List.set_set, sj, s0]
  rw [hHe]
  refine aCode_ok Ty.mixed _ _ _ _ (by kernel_rfl) ?_
  simp (disch := omega) only [go_sem, seval, g0, g1, g2]
  rw [List.getElem?_set_self (by simp [insK])]
  simp (disch := omega) only [go_sem, seval]
  exact ⟨_, by rw [insK, List.append_assoc, hset_add]⟩
end Go.Proofs.YtmdiebdplakccaaDoor
