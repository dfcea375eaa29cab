/- The laws of a walk over abstract values: operations, regions, sequence, branches, blocks, loops, calls. It says nothing of any program; no conditions. -/
import Derived.Test.YtopiamdfnaejeaaAbsGd
set_option linter.unusedSimpArgs false
set_option linter.unusedVariables false
namespace Go.Abs
open Go Go.RowKit

/-- Nothing but a value that is no nil pointer passes. -/
def aNil (x : AV) (K : AV → Prop) : Prop :=
  match x with
  | .ptr (some _) => K x
  | .eptr _ => K x
  | .func _ _ _ => K x
  | .yield _ => K x
  | _ => False

/-- Calls of what Go has built in. -/
def aBuiltin (P : Program) (b : Builtin) (ts : List TypeId) (xs : List AV) (h : AH) (K : AV → AH → Prop) : Prop :=
  match b, ts, xs with
  | .len, [t], [x] => aLen P t x h fun v => K v h
  | .append, [t, u], [s, x] => aAppend P t u s x h K
  | .min, _, [x, y] => aMin x y fun v => K v h
  | .max, _, [x, y] => aMax x y fun v => K v h
  | .clear, [t], [x] => aClear P t x h K
  | _, _, _ => False

/-- The operations, calls aside. -/
def aop (P : Program) (Γ : Nat → Option (List AV)) (σ : Tm) (h : AH) (op : Op) (K : AV → AH → Prop) : Prop :=
  match op with
  | .move x => K (ev Γ σ x) h
  | .assign x => K (ev Γ σ x) h
  | .pick c a b => (match ev Γ σ c with
    | .bool t => K (if t then ev Γ σ a else ev Γ σ b) h
    | _ => False)
  | .alloc t => aAlloc P t h K
  | .box t x => aBox t (ev Γ σ x) h K
  | .build t parts => aBuild P t (evParts Γ σ parts) fun v => K v h
  | .buildSlice t len parts => aBuildSlice P t len (evParts Γ σ parts) fun v => K v h
  | .load t a => aLoad P t (ev Γ σ a) h K
  | .store t a x => aStore P t (ev Γ σ a) (ev Γ σ x) h fun h' => K (.tuple []) h'
  | .nilCheck x => aNil (ev Γ σ x) fun v => K v h
  | .binOp op t x y _ => aBin2 P op t (ev Γ σ x) (ev Γ σ y) fun v => K v h
  | .unOp op _ x => aUn op (ev Γ σ x) fun v => K v h
  | .convert s d x => aConv2 P s d (ev Γ σ x) fun v => K v h
  | .makeFunc (.func f) first captured => K (.func f (first.toList.map (ev Γ σ)) (captured.toList.map (ev Γ σ))) h
  | .makeMap _ none => aMakeMap h K
  | .makeSlice t l c => aMakeSlice P t (ev Γ σ l) (ev Γ σ c) h K
  | .range t x => aRange P t (ev Γ σ x) h K
  | .entry x => aEntry (ev Γ σ x) h fun v => K v h
  | .index t x i => aIndex P t (ev Γ σ x) (ev Γ σ i) fun v => K v h
  | .slice t x lo hi mx => aSlice2 P t (ev Γ σ x) (lo.map (ev Γ σ)) (hi.map (ev Γ σ)) (mx.map (ev Γ σ)) fun v => K v h
  | .fieldAddr s x f => aFieldAddr P s (ev Γ σ x) f fun v => K v h
  | .field t x f => aField P t (ev Γ σ x) f fun v => K v h
  | .indexAddr t x i => aIndexAddr P t (ev Γ σ x) (ev Γ σ i) fun v => K v h
  | .lookup t m k ok => aLookup P t (ev Γ σ m) (ev Γ σ k) ok h fun v => K v h
  | .extract x i => aExtract (ev Γ σ x) i fun v => K v h
  | .mapUpdate t m k x => aMapUpdate P t (ev Γ σ m) (ev Γ σ k) (ev Γ σ x) h fun h' => K (.tuple []) h'
  | .call c => (match c.callee with
    | .builtin b => aBuiltin P b c.argTypes.toList (c.args.toList.map (ev Γ σ)) h K
    | _ => False)
  | _ => False

/-- What an operation that makes no call leaves. -/
def StepOK (P : Program) (Γ : Nat → Option (List AV)) (G : Gh) (w : World) (s : Sem Next) (K : AV → AH → Prop) : Prop :=
  ∃ n u w' G' av h', s.run P w = .ok n w' ∧ (n = .value u ∨ (n = .skip ∧ u = undef)) ∧ G.le G' ∧ Inv Γ G' h' w' ∧ VR G' av u ∧ K av h'

section
variable {P : Program} {Γ : Nat → Option (List AV)} {G : Gh} {h : AH} {w : World} {N : Nat} {σ : Tm}

theorem StepOK.val {s : Sem Value} {K : AV → AH → Prop} (H : SemOK P Γ G w s K) : StepOK P Γ G w (do pure (.value (← s))) K := by
  obtain ⟨u, w', G', av, h', h1, h2, h3, h4, h5⟩ := H
  exact ⟨.value u, u, w', G', av, h', by simp [h1], .inl rfl, h2, h3, h4, h5⟩
theorem StepOK.unit {s : Sem Unit} {K : AV → AH → Prop} (H : SemOKU P Γ G w s fun h' => K (.tuple []) h') : StepOK P Γ G w (do s; pure .skip) K := by
  obtain ⟨w', G', h', h1, h2, h3, h4⟩ := H
  exact ⟨.skip, undef, w', G', _, h', by simp [h1], .inr ⟨rfl, rfl⟩, h2, h3, .tuple rfl (fun j c e => by simp at e), h4⟩
theorem StepOK.now (hI : Inv Γ G h w) {u : Value} {av : AV} {K : AV → AH → Prop} (hv : VR G av u) (hk : K av h) : StepOK P Γ G w (pure (.value u)) K :=
  ⟨.value u, u, w, G, av, h, rfl, .inl rfl, Gh.le.refl G, hI, hv, hk⟩

theorem evs_VR (hI : Inv Γ G h w) {a : Act} (ht : TR N G σ a.tmps) (xs : Array Operand) : VRs G (xs.toList.map (ev Γ σ)) (xs.map a.eval) :=
  VRs.of_get (by simp) fun j c v e e' => by
    simp only [List.getElem?_map, Option.map_eq_some_iff, Array.getElem?_map, Array.getElem?_toList] at e e'
    obtain ⟨x, h1, rfl⟩ := e
    obtain ⟨y, h2, rfl⟩ := e'
    rw [h1] at h2; cases h2
    exact ev_VR hI ht x

theorem evo_VR (hI : Inv Γ G h w) {a : Act} (ht : TR N G σ a.tmps) (x : Option Operand) : VRo G (x.map (ev Γ σ)) (x.map a.eval) := by
  cases x with
  | none => trivial
  | some x => exact ev_VR hI ht x

theorem VRs.inv1 {x : AV} {vs : Array Value} (hv : VRs G [x] vs) : ∃ v, vs = #[v] ∧ VR G x v := by
  obtain ⟨v, h1, h2⟩ := hv.get (j := 0) rfl
  refine ⟨v, ?_, h2⟩
  have hl := hv.1
  apply Array.ext (by simpa using hl.symm)
  intro i hi _
  have : i = 0 := by simp at hl; omega
  subst this
  simpa [Array.getElem?_eq_getElem hi] using h1
theorem VRs.inv2 {x y : AV} {vs : Array Value} (hv : VRs G [x, y] vs) : ∃ v u, vs = #[v, u] ∧ VR G x v ∧ VR G y u := by
  obtain ⟨v, h1, h2⟩ := hv.get (j := 0) rfl
  obtain ⟨u, k1, k2⟩ := hv.get (j := 1) rfl
  refine ⟨v, u, ?_, h2, k2⟩
  have hl := hv.1
  apply Array.ext (by simpa using hl.symm)
  intro i hi _
  have : i = 0 ∨ i = 1 := by simp at hl; omega
  rcases this with rfl | rfl
  · simpa [Array.getElem?_eq_getElem hi] using h1
  · simpa [Array.getElem?_eq_getElem hi] using k1

theorem builtin_ok (hI : Inv Γ G h w) {b : Builtin} {ts : Array TypeId} {tl : List TypeId} {ty : TypeId} {consts : Array Bool} {xs : List AV} {vs : Array Value} (hv : VRs G xs vs) (hts : ts = tl.toArray)
    {K : AV → AH → Prop} (H : aBuiltin P b tl xs h K) : StepOK P Γ G w (builtin b ts ty consts vs) K := by
  subst hts
  unfold aBuiltin at H
  split at H
  · obtain ⟨v, rfl, h1⟩ := hv.inv1
    exact .val (len_ok hI h1 rfl H)
  · obtain ⟨v, u, rfl, h1, h2⟩ := hv.inv2
    exact .val (append_ok hI h1 h2 H)
  · obtain ⟨v, u, rfl, h1, h2⟩ := hv.inv2
    exact .val (min_ok hI h1 h2 H)
  · obtain ⟨v, u, rfl, h1, h2⟩ := hv.inv2
    exact .val (max_ok hI h1 h2 H)
  · obtain ⟨v, rfl, h1⟩ := hv.inv1
    exact .val (clear_ok hI h1 H)
  · exact H.elim

theorem aop_ok (hI : Inv Γ G h w) {a : Act} (ht : TR N G σ a.tmps) {o : Oper} {K : AV → AH → Prop} (H : aop P Γ σ h o.op K) : StepOK P Γ G w (execOp a.eval o) K := by
  have e := fun x => ev_VR (x := x) hI ht
  unfold aop at H
  unfold execOp
  split at H <;> rename_i ho <;> simp only [ho]
  · exact .now hI (e _) H
  · exact .now hI (e _) H
  · rename_i c x y
    split at H
    · rename_i t hc
      have hcv := e c
      rw [hc] at hcv
      generalize a.eval c = vc at hcv
      cases hcv
      have := StepOK.now (P := P) hI (u := if t then a.eval x else a.eval y) (av := if t then ev Γ σ x else ev Γ σ y) (by cases t <;> simp <;> exact e _) H
      simpa [asBool] using this
    · exact H.elim
  · exact .val (alloc_ok hI H)
  · exact .val (box_ok hI (e _) H)
  · exact .val (build_ok hI ht H)
  · exact .val (buildSlice_ok hI ht H)
  · exact .val (loadAt_ok hI (e _) H)
  · exact .unit (storeAt_ok hI (e _) (e _) H)
  · rename_i x
    have hx := e x
    unfold aNil at H
    split at H
    all_goals first
      | exact H.elim
      | (rename_i hx'
         rw [hx'] at hx H
         generalize a.eval x = vx at hx
         have hx0 := hx
         cases hx
         exact .now hI hx0 H)
  · exact .val (bin2_ok hI (e _) (e _) H)
  · exact .val (un_ok hI (e _) H)
  · exact .val (conv2_ok hI (e _) H)
  · rename_i f first captured
    have h1 := evs_VR hI ht first
    have h2 := evs_VR hI ht captured
    exact .val (.pure' hI (by simp [Instr.makeFunc] <;> rfl) (.func h1.1 h2.1 h1.2 h2.2) H)
  · exact .val (makeMap_ok hI H)
  · exact .val (makeSlice_ok hI (e _) (e _) H)
  · exact .val (range_ok hI (e _) H)
  · exact .val (entry_ok hI (e _) H)
  · exact .val (index_ok hI (e _) (e _) H)
  · exact .val (slice2_ok hI (e _) (evo_VR hI ht _) (evo_VR hI ht _) (evo_VR hI ht _) H)
  · exact .val (fieldAt_ok hI (e _) H)
  · exact .val (field_ok hI (e _) H)
  · exact .val (indexAt_ok hI (e _) (e _) H)
  · exact .val (lookup_ok hI (e _) (e _) H)
  · exact .val (extract_ok hI (e _) H)
  · exact .unit (mapUpdate_ok hI (e _) (e _) (e _) H)
  · rename_i c
    split at H
    · rename_i b hb
      have hv := evs_VR hI ht c.args
      have := fun consts => builtin_ok (ty := o.type) (consts := consts) hI hv (Array.toArray_toList (xs := c.argTypes)).symm H
      simp only [resolve, hb, pure_bind, invoke]
      exact this _
    · exact H.elim
  · exact H.elim
end
end Go.Abs
