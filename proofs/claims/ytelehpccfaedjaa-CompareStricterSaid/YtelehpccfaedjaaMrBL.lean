/- Texts joined: CmpN, CmpO. No conditions. -/
import Derived.Test.YtelehpccfaedjaaMrBK
import Derived.Test.YtelehpccfaedjaaMrBI
import Derived.Test.YtelehpccfaedjaaMrT
import Derived.SizedLaws
/- CompareStricter: the code. No conditions. -/
set_option linter.unusedSimpArgs false
set_option linter.unusedVariables false
namespace Go.Proofs.Ytelehpccfaedjaa
open Go Go.Proofs Go.Abs

theorem rowsOK_Gs (l : List Gt) : RowsOK 3 (l.map encG) := fun r hr => by
  obtain ⟨x, _, rfl⟩ := List.mem_map.1 hr
  cases x with | mk p n l =>
  rw [encG_mk]
  refine ⟨rfl, fun c hc => ?_⟩
  simp only [AV.cells, List.mem_cons, List.not_mem_nil, or_false] at hc
  rcases hc with rfl | rfl | rfl <;> rfl
set_option maxHeartbeats 1600000 in
set_option maxRecDepth 100000 in
theorem cmpStricter_calls (Γ : Nat → Option (List AV)) (p n by_ : Int) (gl : List Gt) (x : Gt) (h : AH) (ha : Sh (.mk p n gl)) (hx : Sh x) (hb1 : 0 ≤ by_) (hb2 : by_ ≤ 255) (hl : gl.length * 40 ≤ 140737488351232) :
    ACalls Try.prog Γ 12 [encG (.mk p n gl), encG x, .int .u8 by_] h fun v h' => h' = h ∧ v = .bool true := by
  cases x with | mk px nx lx =>
  refine ACalls.drop ?_
  simp only [encG_mk]
  refine acalls_code (rs := [.tmp 6]) Try.func12 rfl rfl rfl rfl Ty.mixed (by kernel_rfl) ?_
  simp (disch := omega) only [go_sem, seval]
  refine ACalls.det (sane25_calls Γ _) ?_
  simp (disch := omega) only [go_sem, seval]
  refine aAp_full (rowsOK_Gs []) (rowsOK_Gs gl) (by simp; omega) (by simp; omega) ?_
  simp (disch := omega) only [go_sem, seval]
  have ex : (gl.map encG) ++ [AV.agg [.int .i64 px, .int .i64 nx, .sl (lx.map encG) .free]] = (gl ++ [Gt.mk px nx lx]).map encG := by rw [List.map_append, List.map_cons, List.map_nil, encG_mk]
  have r1 := rowsOK_Gs [Gt.mk px nx lx]
  rw [List.map_cons, List.map_nil, encG_mk] at r1
  refine aAp_arena (by simp) (rowsOK_Gs gl) r1 (by simp; omega) (by simp; omega) ?_
  rw [ex]
  simp (disch := omega) only [go_sem, seval, List.length_append]
  refine aIf.intro (fun hp => ?_) (fun hp => ?_) <;> simp (disch := omega) only [go_sem, seval]
  subst hp
  have hw1 : -9223372036854775808 ≤ IntKind.i64.wrap (n + by_) := by rw [IntKind.wrap_i64]; omega
  have hw2 : IntKind.i64.wrap (n + by_) ≤ 9223372036854775807 := by rw [IntKind.wrap_i64]; omega
  have hw3 : 1 ≤ n ∧ n ≤ 4096 → IntKind.i64.wrap (n + by_) = n + by_ := fun h => by rw [IntKind.wrap_i64]; omega
  generalize IntKind.i64.wrap (n + by_) = m at *
  have hn := ha
  cases hn with | mk q1 q2 q3 q4 q5 q6 =>
  have hs : Sh (Gt.mk (-1) m gl) := .mk q1 q2 q3 q4 hw1 hw2
  have hwd : Sh (Gt.mk (-1) n (gl ++ [Gt.mk px nx lx])) := .mk (by simp; omega) (fun y hy => by
    rcases List.mem_append.1 hy with hy | hy
    · exact q2 y hy
    · rw [List.mem_singleton] at hy; subst hy; exact hx) q3 q4 q5 q6
  have c1 := fun h => right25_calls Γ [Gt.mk (-1) n gl, Gt.mk (-1) n (gl ++ [Gt.mk px nx lx]), Gt.mk (-1) m gl] h (by simp only [List.mem_cons, List.not_mem_nil, or_false]; rintro g (rfl | rfl | rfl) <;> assumption) (by simp)
  rw [three_all] at c1
  have c2 := fun h => pless_calls Γ (Gt.mk (-1) n gl) (Gt.mk (-1) m gl) h ha hs
  have c3 := fun h => pless_calls Γ (Gt.mk (-1) n (gl ++ [Gt.mk px nx lx])) (Gt.mk (-1) n gl) h hwd ha
  have c4 := fun h => more_calls Γ (Gt.mk (-1) n gl) (Gt.mk (-1) m gl) h ha hs
  have fin : rgt1 (Gt.mk (-1) n gl) = true → rgt1 (Gt.mk (-1) n (gl ++ [Gt.mk px nx lx])) = true → rgt1 (Gt.mk (-1) m gl) = true →
      ∃ l1 l2 l3, lessR (Gt.mk (-1) n gl) (Gt.mk (-1) m gl) = (l1, true, 0) ∧ lessR (Gt.mk (-1) n (gl ++ [Gt.mk px nx lx])) (Gt.mk (-1) n gl) = (l2, true, 0) ∧ moreR (Gt.mk (-1) n gl) (Gt.mk (-1) m gl) = (l3, false, 0) := fun e1 e2 e3 => by
    have ra := rgt_rt e1
    have rw_ := rgt_rt e2
    have rs := rgt_rt e3
    have hn := gate_n ra.c
    have hm := hw3 hn
    have p1 := (less_iff ra rs).2 (strict_permits ra.c rs.c (by omega))
    have p2 := (less_iff rw_ ra).2 (wide_permits ra.c rw_.c)
    obtain ⟨z1, z2, z3⟩ := more_less ra rs
    have z4 := (more_less rw_ ra).2.2
    rw [p1] at z1
    refine ⟨_, _, _, Prod.ext rfl (Prod.ext p1 z3), Prod.ext rfl (Prod.ext p2 z4), Prod.ext rfl (Prod.ext z1 z2)⟩
  simp only [List.map_cons, List.map_nil, encG_mk] at c1 c2 c3 c4
  refine ACalls.det (ACalls.ofLoose (c1 _) (by simp only [looseL, loose, loose_Gs])) ?_
  simp (disch := omega) only [go_sem, seval]
  cases hr : rgt1 (Gt.mk (-1) n gl) && (rgt1 (Gt.mk (-1) n (gl ++ [Gt.mk px nx lx])) && rgt1 (Gt.mk (-1) m gl)) with
  | false => simp (disch := omega) only [go_sem, seval]
  | true =>
  rw [Bool.and_eq_true, Bool.and_eq_true] at hr
  obtain ⟨l1, l2, l3, f1, f2, f3⟩ := fin hr.1 hr.2.1 hr.2.2
  rw [f1, encL] at c2
  rw [f2, encL] at c3
  rw [f3, encM] at c4
  simp (disch := omega) only [go_sem, seval]
  refine ACalls.det (c2 _) ?_
  simp (disch := omega) only [go_sem, seval]
  refine ACalls.det (ACalls.ofLoose (c3 _) (by simp only [looseL, loose, loose_Gs])) ?_
  simp (disch := omega) only [go_sem, seval]
  refine ACalls.det (c4 _) ?_
  simp (disch := omega) only [go_sem, seval]
end Go.Proofs.Ytelehpccfaedjaa

/- What the form says of a gate's size. No conditions. -/
set_option linter.unusedSimpArgs false
set_option linter.unusedVariables false
namespace Go.Proofs.Ytelehpccfaedjaa
open Go Go.Proofs Go.Abs

theorem gate_bytes : Try.prog.bytesOf 54 = 40 := by kernel_rfl
set_option maxRecDepth 100000 in
theorem gate_size {H : Type} {enc : TypeId × Value → H} {w : World} {base : Nat} {spare : Nat → Bool} {held : Bool} {fuel : Nat} {cs : List Value} {d : DataW H} {pl : List MemPlace} (h : DataW.trod enc Try.prog w base spare held fuel 54 cs = some (d, pl))
    (hz : ∀ k ∈ d.weights Try.prog 54, k ≤ reachBytes) {p n : Int} {gl : List Gt} (e : ofD d = encG (.mk p n gl)) : gl.length * 40 ≤ 140737488351232 := by
  obtain ⟨xs, m, rfl, hx, hcl, hxl, hf⟩ := DataW.trod_struct Try.underlying54 h
  cases hx
  match xs, hxl with
  | [x0, x1, x2], _ =>
    have f0 := hf 0 _ rfl
    have f1 := hf 1 _ rfl
    have f2 := hf 2 _ rfl
    simp only [List.getElem?_cons_zero, List.getElem?_cons_succ] at f0 f1 f2
    obtain ⟨n0, _, rfl, _⟩ := DataW.trod_int Try.underlying3 f0
    obtain ⟨n1, _, rfl, _⟩ := DataW.trod_int Try.underlying3 f1
    rw [encG_mk] at e
    rcases DataW.trod_slice Try.underlying52 f2 with ⟨_, rfl⟩ | ⟨a, len, cap, elems, rest, k, _, _, rfl, _⟩
    · simp only [List.map_cons, List.map_nil, ofD, ofCs, ofLit, AV.cells, List.cons_append, List.nil_append, AV.agg.injEq, List.cons.injEq, AV.sl.injEq] at e
      have := congrArg List.length e.2.2.1.1
      simp at this
      omega
    · simp only [List.map_cons, List.map_nil, ofD, ofCs, ofLit, AV.cells, List.cons_append, List.nil_append, AV.agg.injEq, List.cons.injEq, AV.sl.injEq, ofDs_map] at e
      have h1 := congrArg List.length e.2.2.1.1
      have h2 := hz (((elems.map (·.1)).length + (rest.map (·.1)).length) * Try.prog.bytesOf 54) (by
        simp [DataW.weights, DataW.weightsEach, Try.underlying54, Try.underlying52])
      rw [gate_bytes, show reachBytes = 140737488351232 from rfl] at h2
      simp at h1 h2
      omega
theorem gate_first {H : Type} {enc : TypeId × Value → H} {ts ts' : List TypeId} {vars : List String} {W : World} {args : List Value} {ds gs : List (DataW H)} {before : List MemPlace} (hW : DataW.Whole enc Try.prog (54 :: ts) vars false W args ds gs before)
    (hz : (DataW.weightsEach Try.prog (54 :: ts') (ds ++ gs)).all (· ≤ reachBytes) = true) {p n : Int} {gl : List Gt} {rest : List AV} (e : ds.map ofD = encG (.mk p n gl) :: rest) : gl.length * 40 ≤ 140737488351232 := by
  obtain ⟨_, q, hA, _⟩ := hW
  cases ds with
  | nil => cases e
  | cons d ds =>
    cases args with
    | nil => simp [DataW.TrodAll] at hA
    | cons v vs =>
      obtain ⟨_, _, ⟨fuel, h1⟩, _⟩ := hA
      rw [List.map_cons, List.cons.injEq] at e
      refine gate_size h1 (fun k hk => ?_) e.1
      have := List.all_eq_true.1 hz k (by rw [List.cons_append, DataW.weightsEach]; exact List.mem_append_left _ hk)
      simpa using this
end Go.Proofs.Ytelehpccfaedjaa
