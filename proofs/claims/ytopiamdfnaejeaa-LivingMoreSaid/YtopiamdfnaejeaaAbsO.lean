/- Ranges over functions, seen abstractly: rounds, yield, the statement. It says nothing of any program; no conditions. -/
import Derived.Test.YtopiamdfnaejeaaAbsM
set_option linter.unusedSimpArgs false
set_option linter.unusedVariables false
namespace Go.Abs
open Go Go.RowKit

/-- yield's arguments in the parameters. -/
def putArgs : List Tmp → List AV → Tm → Tm
  | p :: ps, a :: as, σ => putArgs ps as ((p, a) :: σ)
  | _, _, σ => σ

/-- How a round may end. -/
def roundPostA (L : Nat) (li : LI) (R : AV → AH → Prop) : Exit → Tm → AH → Prop
  | .normal, _, h => h[L]? = some (.loop .busy none li) ∧ R (.bool true) (h.set L (.loop .ready none li))
  | .ret, _, h => h[L]? = some (.loop .busy none li) ∧ R (.bool false) (h.set L (.loop .done (some .ret) li))
  | .exit id, _, h => h[L]? = some (.loop .busy none li) ∧ R (.bool false) (h.set L (.loop .done (some (.exit id)) li))
  | .goto t, _, h => h[L]? = some (.loop .busy none li) ∧ R (.bool false) (h.set L (.loop .done (some (.goto t)) li))
  | _, _, _ => False

section
variable {P : Program} {Γ : Nat → Option (List AV)} {G : Gh} {h : AH} {w : World} {N : Nat} {σ : Tm} {Q : Exit → Tm → AH → Prop}

theorem TR.putArgs : ∀ (ps : List Tmp) (as : List AV) (vs : List Value) (σ : Tm) (t : Array Value), ps.length = as.length → as.length = vs.length → (∀ p ∈ ps, p < N) →
    (∀ (j : Nat) (c : AV) (v : Value), as[j]? = some c → vs[j]? = some v → VR G c v) → TR N G σ t → TR N G (Abs.putArgs ps as σ) ((ps.zip vs).foldl (fun t p => t.setIfInBounds p.1 p.2) t)
  | [], as, vs, σ, t, _, _, _, _, ht => by cases as <;> exact ht
  | p :: ps, [], vs, σ, t, h1, _, _, _, _ => by simp at h1
  | p :: ps, a :: as, [], σ, t, _, h2, _, _, _ => by simp at h2
  | p :: ps, a :: as, v :: vs, σ, t, h1, h2, hN, hv, ht => by
    simp only [List.zip_cons_cons, List.foldl_cons, Abs.putArgs]
    refine TR.putArgs ps as vs _ _ (by simpa using h1) (by simpa using h2) (fun q hq => hN q (List.mem_cons_of_mem _ hq)) (fun j c u e e' => hv (j + 1) c u (by simpa using e) (by simpa using e')) ?_
    have := TR.put (a := { tmps := t, defers := [] }) ht (d := some p) (fun x e => by cases e; exact hN p (List.mem_cons_self ..)) (hv 0 a v rfl rfl)
    exact this

theorem putObj_size {b : Nat} {o : Obj} : (w.putObj b o).heap.size = w.heap.size := by simp [World.putObj]
theorem putObj_same {b : Nat} {o : Obj} (hb : b < w.heap.size) : (w.putObj b o).heap[b]? = some o := by simp [World.putObj, hb]

/-- A loop's record turns. -/
theorem Inv.setLoop (hI : Inv Γ G h w) {L : Nat} {st st' : LoopState} {pe pe' : Option Code} {li : LI} (hL : h[L]? = some (.loop st pe li)) {b : Nat} (hb : G.ρ L = some b) {l : Loop} (hl : w.heap[b]? = some (.loop l)) :
    Inv Γ G (h.set L (.loop st' pe' li)) (w.putObj b (.loop { l with state := st', pending := pe' })) := by
  obtain ⟨b', l', k1, k2, k3, k4, k5, k6, k7, k8, k9⟩ := hI.obj L _ hL
  rw [hb] at k1; cases k1
  rw [hl] at k2; cases k2
  have hnew := putObj_same (w := w) (o := .loop { l with state := st', pending := pe' }) (lt_of_heap hl)
  refine hI.write hb putObj_size rfl rfl rfl (fun k hk => World.putObj_heap_other hk) _ ⟨b, _, hb, hnew, rfl, rfl, k5, k6, k7, k8, k9⟩ (fun D hD => ?_) (by rw [hl]; simp) (by rw [hL]; simp)
  obtain ⟨l2, e1, e2, _⟩ := hI.lp b D hD
  rw [hl] at e1; cases e1
  exact ⟨_, hnew, e2⟩

/-- **A round, out of its body.** -/
theorem ayield_of_body {L : Nat} {li : LI} {args : List AV} {R : AV → AH → Prop} (hL : h[L]? = some (.loop .ready none li)) (hN : ∀ p ∈ li.params.toList, p < li.N) (hlen : li.params.toList.length = args.length)
    (H : AWP P Γ li.N li.assign (thenA (fun σ' h' => h'[L]? = some (.loop .ready none li) ∧ AWP P Γ li.N li.body (roundPostA L li R) σ' (h'.set L (.loop .busy none li))) fun _ _ _ => False) (Abs.putArgs li.params.toList args li.σ) h) :
    AYield P Γ L args h R := fun G w vs b hI hv hb => by
  obtain ⟨b', l, k1, k2, k3, k4, k5, k6, k7, k8, k9⟩ := hI.obj L _ hL
  rw [hb] at k1; cases k1
  have hsz : vs.size = l.params.size := by rw [k5, ← hv.1, ← hlen]; simp
  refine ⟨l.fn, _, l.assign, l.body, run_yield k2 hsz, fun r => roundIn_of_wpIn trivial ?_⟩
  have hlp : ∀ l', some b = some l' → ∃ D, G.lpD l' = some D := fun l' e => by cases e; exact ⟨_, k9⟩
  have ht : TR li.N G (Abs.putArgs li.params.toList args li.σ) ((l.params.zip vs).foldl (fun tmps (p : Tmp × Value) => tmps.setIfInBounds p.1 p.2) l.tmps) := by
    have := TR.putArgs (N := li.N) (G := G) li.params.toList args vs.toList li.σ l.tmps hlen (by have := hv.1; simpa using this) hN (fun j c v e e' => by
      obtain ⟨u, e1, e2⟩ := hv.get e
      rw [Array.getElem?_toList, e1] at e'; cases e'; exact e2) k8
    rw [k5, ← Array.foldl_toList, Array.toList_zip]
    exact this
  rw [k6, k7]
  refine wpIn_mono (H (some b) G w { tmps := _, defers := [] } hlp hI ht) fun e a1 w1 hp => ?_
  obtain ⟨G1, σ1, h1, Ds, e1, e2, e3, e4, e5, e6, e7⟩ := hp
  cases e with
  | normal =>
    obtain ⟨hL1, hbody⟩ := e7
    have hb1 := e1.ρ L b hb
    obtain ⟨b', l1, m1, m2, m3, m4, m5, m6, m7, m8, m9⟩ := e2.obj L _ hL1
    rw [hb1] at m1; cases m1
    refine ⟨_, run_beginRound m2 m3, ?_⟩
    have hI1 := e2.setLoop (st' := .busy) (pe' := l1.pending) hL1 hb1 m2
    rw [m4] at hI1
    refine wpIn_mono (hbody (some b) G1 _ a1 (fun l' e => by cases e; exact ⟨_, m9⟩) (by have := hI1; simpa [m4] using this) e3) fun e a2 w2 hp2 => ?_
    obtain ⟨G2, σ2, h2, Ds2, f1, f2, f3, f4, f5, f6, f7⟩ := hp2
    have fin : ∀ (jump : Option Code), h2[L]? = some (.loop .busy none li) → R (.bool jump.isNone) (h2.set L (.loop (if jump.isNone then .ready else .done) jump li)) →
        ∃ v w', (Instr.endRound b jump).run P w2 = .ok v w' ∧ Res Γ G R (.returned v) w' := fun jump hL2 hR => by
      have hb2 := f1.ρ L b hb1
      obtain ⟨b', l2, n1, n2, _⟩ := f2.obj L _ hL2
      rw [hb2] at n1; cases n1
      exact ⟨_, _, run_endRound jump n2, _, G2, .bool jump.isNone, _, rfl, e1.trans f1, f2.setLoop hL2 hb2 n2, .bool _, hR⟩
    cases e with
    | normal => exact fin none f7.1 f7.2
    | ret => exact fin (some .ret) f7.1 f7.2
    | exit id => exact fin (some (.exit id)) f7.1 f7.2
    | goto t => exact fin (some (.goto t)) f7.1 f7.2
    | panic c => exact f7.elim
    | outgrown => exact f7.elim
  | _ => exact e7.elim

/-- The ghost's words on loops turn. -/
theorem Inv.relp (hI : Inv Γ G h w) (lpD' : Nat → Option Nat) (ds' : Nat → Prop)
    (h1 : ∀ (i : Nat) (st : LoopState) (pe : Option Code) (li : LI) (b : Nat) (l : Loop), h[i]? = some (.loop st pe li) → G.ρ i = some b → w.heap[b]? = some (.loop l) → G.lpD b = some l.defers → lpD' b = some l.defers)
    (h2 : ∀ b D, lpD' b = some D → (∃ l, w.heap[b]? = some (.loop l) ∧ l.defers = D ∧ ds' D) ∧ G.w0.heap.size ≤ b)
    (h3 : ∀ D, ds' D → w.heap[D]? = some (.deferred (some [])) ∧ G.w0.heap.size ≤ D) : Inv Γ { G with lpD := lpD', ds := ds' } h w := by
  generalize hG' : ({ G with lpD := lpD', ds := ds' } : Gh) = G'
  have hF : G'.F = G.F := by subst hG'; rfl
  have hρ : G'.ρ = G.ρ := by subst hG'; rfl
  have har : G'.ar = G.ar := by subst hG'; rfl
  have hlp : G'.lpD = lpD' := by subst hG'; rfl
  have hds : G'.ds = ds' := by subst hG'; rfl
  have hw0 : G'.w0 = G.w0 := by subst hG'; rfl
  have hVR : ∀ {a : AV} {v : Value}, VR G a v → VR G' a v := fun hv => hv.same hρ hF har
  exact {
    below := by rw [hw0]; exact hI.below
    fix := by rw [hF]; exact hI.fix
    obj := fun i ob e => by
      have ho := hI.obj i ob e
      cases ob with
      | row cs T => obtain ⟨b, vals, k1, k2, hv⟩ := ho; exact ⟨b, vals, by rw [hρ]; exact k1, k2, hv.1, fun j c e => hVR (hv.2 j c e)⟩
      | map ents clk =>
        obtain ⟨b, es, k1, k2, hl, hv⟩ := ho
        exact ⟨b, es, by rw [hρ]; exact k1, k2, hl, fun j e x he hx => ⟨(hv j e x he hx).1, hVR (hv j e x he hx).2.1, hVR (hv j e x he hx).2.2⟩⟩
      | iter m clk seen =>
        obtain ⟨b, mb, k1, k2, k3⟩ := ho
        refine ⟨b, mb, by rw [hρ]; exact k1, k2, ?_⟩
        cases m with
        | none => exact k3
        | some j => rw [hρ]; exact k3
      | siter s pos => obtain ⟨b, k1, k2⟩ := ho; exact ⟨b, by rw [hρ]; exact k1, k2⟩
      | arena n => obtain ⟨r, k1, k2⟩ := ho; exact ⟨r, by rw [har]; exact k1, k2⟩
      | loop st pend li =>
        obtain ⟨b, lp, k1, k2, k3, k4, k5, k6, k7, k8, k9⟩ := ho
        exact ⟨b, lp, by rw [hρ]; exact k1, k2, k3, k4, k5, k6, k7, ⟨k8.1, fun i => hVR (k8.2 i)⟩, by rw [hlp]; exact h1 i st pend li b lp e k1 k2 k9⟩
      | dead => trivial
      | hole => exact ⟨by rw [hρ]; exact ho.1, by rw [har]; exact ho.2⟩
      | frozen => trivial
    domρ := by rw [hρ]; exact hI.domρ
    domA := by rw [har]; exact hI.domA
    inj := by rw [hρ]; exact hI.inj
    base := by rw [hρ, hw0]; exact hI.base
    sep := by rw [hρ, hF]; exact hI.sep
    arB := fun i r b c sz T e e' => by
      rw [har] at e
      exact (hI.arB i r b c sz T e e').mono hw0 rfl (fun o v h => by rwa [hF] at h) (fun j h => by rwa [hρ] at h)
    arI := by rw [har]; exact hI.arI
    lp := fun b D e => by rw [hlp] at e; rw [hds]; exact (h2 b D e).1
    lpB := fun b D e => by rw [hlp] at e; rw [hw0]; exact (h2 b D e).2
    dsI := fun D e => by rw [hds] at e; rw [hw0]; exact h3 D e
    glob := fun g cs e => hVR (hI.glob g cs e) }

theorem Inv.lpD_none (hI : Inv Γ G h w) {b : Nat} (hb : w.heap.size ≤ b) : G.lpD b = none := by
  cases e : G.lpD b with
  | none => rfl
  | some D => obtain ⟨l, k, _⟩ := hI.lp b D e; have := lt_of_heap k; omega
theorem Inv.ds_not (hI : Inv Γ G h w) {D : Nat} (hD : w.heap.size ≤ D) : ¬ G.ds D := fun e => by have := lt_of_heap (hI.dsI D e).1; omega

/-- The ghost with a new loop. -/
def Gh.loop (G : Gh) (i b D : Nat) : Gh := { G.add i b with lpD := fun x => if x = b then some D else G.lpD x }

/-- **A new loop's record**, its block for deferred calls being known. -/
theorem Inv.newLoop (hI : Inv Γ G h w) (rc : Loop) (hD : G.ds rc.defers) (hst : rc.state = .ready) (hpe : rc.pending = none) {li : LI} (h1 : rc.params = li.params) (h2 : rc.assign = li.assign) (h3 : rc.body = li.body) (ht : TR li.N G li.σ rc.tmps) :
    Inv Γ (G.loop h.length w.heap.size rc.defers) (h ++ [.loop .ready none li]) (w.alloc (.loop rc)) := by
  have hA := hI.alloc (.loop rc) .dead trivial
  have hnew : (w.alloc (.loop rc)).heap[w.heap.size]? = some (.loop rc) := heap_alloc_new w _
  have hB := hA.relp (fun x => if x = w.heap.size then some rc.defers else G.lpD x) G.ds (fun i st pe li b l e hρ hl hlp => by
      have : b ≠ w.heap.size := fun e' => by
        subst e'
        have : G.lpD w.heap.size = some l.defers := hlp
        rw [hI.lpD_none (Nat.le_refl _)] at this; cases this
      rw [if_neg this]; exact hlp)
    (fun b D e => by
      split at e
      · rename_i hb; subst hb; cases e; exact ⟨⟨rc, hnew, rfl, hD⟩, hI.below.size⟩
      · exact ⟨by obtain ⟨l, k1, k2, k3⟩ := hA.lp b D e; exact ⟨l, k1, k2, k3⟩, hA.lpB b D e⟩)
    hA.dsI
  have hρ : (G.loop h.length w.heap.size rc.defers).ρ h.length = some w.heap.size := Gh.add_same _ _ _
  have hC := hB.write (G := G.loop h.length w.heap.size rc.defers) (w' := w.alloc (.loop rc)) hρ rfl rfl rfl rfl (fun _ _ => rfl) (.loop .ready none li) ⟨w.heap.size, rc, hρ, hnew, hst, hpe, h1, h2, h3, ⟨ht.1, fun i => ?_⟩, by simp [Gh.loop]⟩
    (fun D hD' => ⟨rc, hnew, by simp [Gh.loop] at hD'; exact hD'⟩) (by rw [hnew]; simp) (by simp)
  · simpa using hC
  · refine VR.same (G := G.add h.length w.heap.size) ?_ ?_ ?_ ((ht.2 i).mono (hI.add_le w.heap.size)) <;> rfl

/-- **A new block for deferred calls.** -/
theorem Inv.newD (hI : Inv Γ G h w) : Inv Γ { G with ds := fun x => G.ds x ∨ x = w.heap.size } h (w.alloc (.deferred (some []))) :=
  (hI.alloc_any (.deferred (some []))).relp G.lpD (fun x => G.ds x ∨ x = w.heap.size) (fun _ _ _ _ _ _ _ _ _ h => h)
    (fun b D e => by
      obtain ⟨l, k1, k2, k3⟩ := (hI.alloc_any (.deferred (some []))).lp b D e
      exact ⟨⟨l, k1, k2, .inl k3⟩, hI.lpB b D e⟩)
    (fun D e => by
      rcases e with e | rfl
      · exact (hI.alloc_any (.deferred (some []))).dsI D e
      · exact ⟨heap_alloc_new w _, hI.below.size⟩)

/-- What a loop may leave of the objects that were there before it. -/
def LoopKept (h h2 : AH) : Prop := h2.length = h.length ∧ ∀ (i : Nat) (ob : AObj), h2[i]? = some ob → h[i]? = some ob ∨ (RBobj h.length ob ∧ ∀ st pe li, ob ≠ .loop st pe li)

theorem LoopKept.refl (h : AH) : LoopKept h h := ⟨rfl, fun _ _ e => .inl e⟩

/-- What comes behind a loop over a function. -/
def afterLoop (P : Program) (Γ : Nat → Option (List AV)) (N : Nat) (Q : Exit → Tm → AH → Prop) (σ : Tm) (h : AH) : Option Code → Prop
  | none => Q .normal σ h
  | some c => AWP P Γ N c Q σ h

/-- **A range over a function.** -/
theorem awp_rangeFunc {g : Operand} {ps : Array Tmp} {assign body : Code} {gf : FuncId} {first caps : List AV} (hg : ev Γ σ g = .func gf first caps)
    (H : ACalls P Γ gf (first ++ [.yield h.length] ++ caps) (h ++ [.loop .ready none ⟨N, σ, ps, assign, body⟩]) fun _ h' => ∃ h2 st pe l, h' = h2 ++ .loop st pe ⟨N, σ, ps, assign, body⟩ :: l ∧ LoopKept h h2 ∧ st ≠ .busy ∧ afterLoop P Γ N Q σ h2 pe) :
    AWP P Γ N (.rangeFunc g ps assign body) Q σ h := fun r G w a hr hI ht => by
  have hgv := ev_VR hI ht g
  rw [hg] at hgv
  generalize hvf : a.eval g = vf at hgv
  cases hgv with
  | func f1 f2 f3 f4 =>
  rename_i vfirst vcap
  obtain ⟨henter, hcall⟩ := H
  refine wpIn_rangeFunc fun fn _ => ?_
  -- the record is laid
  obtain ⟨D, marks, w1, b, G1, hrun, hIL, hle, ⟨hb1, hb2, hb3⟩, hmarks⟩ : ∃ (D : Nat) (marks : List Nat) (w1 : World) (b : Nat) (G1 : Gh),
      (Instr.enterLoop fn a.tmps ps assign body r).run P w = .ok (b, marks.map mark) w1 ∧
      Inv Γ G1 (h ++ [.loop .ready none ⟨N, σ, ps, assign, body⟩]) w1 ∧ G.le G1 ∧ (G1.ρ h.length = some b ∧ G1.lpD b = some D ∧ G.lpD b = none) ∧
      ((marks = [] ∧ ∃ x, G.lpD x = some D) ∨ (marks = [D] ∧ ¬ G.ds D ∧ ∀ x, G1.lpD x = some D → x = b)) := by
    have hleG : ∀ (G0 : Gh) (b D : Nat), G0.ρ = G.ρ → G0.F = G.F → G0.ar = G.ar → G0.w0 = G.w0 → G0.lpD = G.lpD → (∀ x, G.ds x → G0.ds x) → G.lpD b = none → ((∃ x, G.lpD x = some D) ∨ ¬ G.ds D) → G.le (G0.loop h.length b D) :=
      fun G0 b D e1 e2 e3 e4 e5 e6 e7 e8 => ⟨e4, fun i c e => by
          have := hI.domρ i c e
          simp only [Gh.loop, Gh.add, e1]
          rw [if_neg (by omega)]; exact e, fun b o v e => by simp only [Gh.loop, Gh.add, e2]; exact e, fun i r e => ⟨r, by simp only [Gh.loop, Gh.add, e3]; exact e, Nat.le_refl _, fun _ => rfl⟩, fun x D' e => by
          simp only [Gh.loop, e5]
          rw [if_neg (fun e' => by subst e'; rw [e7] at e; cases e)]; exact e, e6, fun x D' e ed => by
          simp only [Gh.loop, e5] at e
          split at e
          · cases e
            rcases e8 with e8 | e8
            · exact e8
            · exact absurd ed e8
          · exact ⟨x, e⟩⟩
    cases r with
    | none =>
      have h1 := hI.newD
      have h2 := h1.newLoop { state := .ready, pending := none, fn := fn, tmps := a.tmps, params := ps, assign := assign, body := body, defers := w.heap.size } (.inr rfl) rfl rfl (li := ⟨N, σ, ps, assign, body⟩) rfl rfl rfl
        ⟨ht.1, fun i => by refine VR.same (G := G) ?_ ?_ ?_ (ht.2 i) <;> rfl⟩
      simp only [World.size_alloc] at h2
      refine ⟨w.heap.size, [w.heap.size], _, w.heap.size + 1, _, run_enterLoop_outer fn a.tmps ps assign body, h2, ?_, ⟨Gh.add_same _ _ _, by simp [Gh.loop], hI.lpD_none (by omega)⟩, .inr ⟨rfl, hI.ds_not (Nat.le_refl _), fun x hx => ?_⟩⟩
      · exact hleG _ _ _ rfl rfl rfl rfl rfl (fun _ h => .inl h) (hI.lpD_none (by omega)) (.inr (hI.ds_not (Nat.le_refl _)))
      · simp only [Gh.loop] at hx
        split at hx
        · assumption
        · obtain ⟨l, _, _, k⟩ := hI.lp x _ hx
          exact absurd k (hI.ds_not (Nat.le_refl _))
    | some l0 =>
      obtain ⟨D, hD⟩ := hr l0 rfl
      obtain ⟨r0, k1, k2, k3⟩ := hI.lp l0 D hD
      have h2 := hI.newLoop { state := .ready, pending := none, fn := fn, tmps := a.tmps, params := ps, assign := assign, body := body, defers := r0.defers } (by rw [k2]; exact k3) rfl rfl (li := ⟨N, σ, ps, assign, body⟩) rfl rfl rfl ht
      refine ⟨r0.defers, [], _, w.heap.size, _, run_enterLoop_inner k1 fn a.tmps ps assign body, h2, ?_, ⟨Gh.add_same _ _ _, by simp [Gh.loop], hI.lpD_none (Nat.le_refl _)⟩, .inl ⟨rfl, l0, by rw [k2]; exact hD⟩⟩
      exact hleG _ _ _ rfl rfl rfl rfl rfl (fun _ h => h) (hI.lpD_none (Nat.le_refl _)) (.inl ⟨l0, by rw [k2]; exact hD⟩)
  have hargs : VRs G1 (first ++ [.yield h.length] ++ caps) ((vfirst ++ #[.func (.yield b) #[] #[]]) ++ vcap) :=
    VRs.append (VRs.append ((show VRs G first vfirst from ⟨f1, f3⟩).mono hle) (VRs.one (VR.yield hb1))) ((show VRs G caps vcap from ⟨f2, f4⟩).mono hle)
  refine ⟨b, marks.map mark, w1, { target := .fn (.func gf) vcap, args := vfirst ++ #[.func (.yield b) #[] #[]] }, w1, gf, (vfirst ++ #[.func (.yield b) #[] #[]]) ++ vcap, w1, hrun, ?_, fun _ _ => trivial, ?_, fun e => by simp [Fr] at e, ?_⟩
  · simp only [resolve, rangeCall, hvf]
    simp [Deferred.ofValue, Act.eval]
  · simp [invoke, henter]
  refine CallsIn.mono (callsIn_Fr.2 (hcall G1 w1 _ hIL hargs)) fun e w3 hres => ?_
  obtain ⟨v, G2, av, h', rfl, k1, k2, _, h2, st, pe, l, rfl, ⟨hlen, hkept⟩, hst, hafter⟩ := hres
  have hL : (h2 ++ .loop st pe ⟨N, σ, ps, assign, body⟩ :: l)[h.length]? = some (.loop st pe ⟨N, σ, ps, assign, body⟩) := by rw [← hlen]; simp
  obtain ⟨b', l3, m1, m2, m3, m4, m5, m6, m7, m8, m9⟩ := k2.obj h.length _ hL
  have hb2' := k1.ρ _ _ hb1
  rw [hb2'] at m1; cases m1
  refine ⟨l3.pending, _, run_endLoop m2 (by rw [m3]; exact hst), ?_⟩
  have hnew := putObj_same (w := w3) (o := .loop { l3 with state := .exhausted }) (lt_of_heap m2)
  have hA := k2.write (w' := w3.putObj b (.loop { l3 with state := .exhausted })) hb2' putObj_size rfl rfl rfl (fun k hk => World.putObj_heap_other hk) .dead trivial (fun D0 hD0 => by
    obtain ⟨l4, e1, e2, _⟩ := k2.lp b D0 hD0
    rw [m2] at e1; cases e1
    exact ⟨_, hnew, e2⟩) (by rw [m2]; simp) (by rw [hL]; simp)
  rw [← hlen, List.set_append_right _ _ (Nat.le_refl _), Nat.sub_self, List.set_cons_zero] at hA
  have hB := hA.drop (fun i ob e => by
    rw [hlen]
    rcases hkept i ob e with e | ⟨e, _⟩
    · exact hI.rbobj e
    · exact e) (by rw [hlen]; exact hI.rbglob)
  have hle2 := hle.trans k1
  have hleC : G.le (G2.cut h2.length) := Gh.le_cut hle2 (by rw [hlen]; exact hI.upTo)
  -- the loop's word is taken back
  obtain ⟨del, hdel1, hdel2, hdel3⟩ : ∃ del : Nat → Prop, del b ∧ (∀ x, (G.lpD x).isSome = true → ¬ del x) ∧ ∀ D0 ∈ marks, ¬ G.ds D0 ∧ G2.ds D0 ∧ ∀ x, G2.lpD x = some D0 → del x := by
    have hds : G2.ds D := by obtain ⟨_, _, _, k⟩ := hIL.lp b D hb2; exact k1.ds D k
    rcases hmarks with ⟨rfl, _⟩ | ⟨rfl, n1, n2⟩
    · refine ⟨fun x => x = b, rfl, fun x hx e => ?_, fun D0 h0 => by cases h0⟩
      subst e
      rw [hb3] at hx; cases hx
    · refine ⟨fun x => x = b ∨ G2.lpD x = some D, .inl rfl, fun x hx e => ?_, fun D0 h0 => ?_⟩
      · rcases e with rfl | e
        · rw [hb3] at hx; cases hx
        · cases hx' : G.lpD x with
          | none => rw [hx'] at hx; cases hx
          | some D' =>
            have := hle2.lpD x D' hx'
            rw [e] at this; cases this
            obtain ⟨_, _, _, k⟩ := hI.lp x D hx'
            exact n1 k
      · rw [List.mem_singleton] at h0; subst h0
        exact ⟨n1, hds, fun x hx => .inr hx⟩
  have hnd : marks.Nodup := by rcases hmarks with ⟨rfl, _⟩ | ⟨rfl, _⟩ <;> simp
  open Classical in
  have hC := hB.relp (fun x => if del x then none else G2.lpD x) G2.ds (fun i st pe li c l e hρ hl hlp => by
      rcases hkept i _ e with e | ⟨_, e⟩
      · obtain ⟨c', l', q1, q2, q3, q4, q5, q6, q7, q8, q9⟩ := hI.obj i _ e
        have := hleC.ρ i c' q1
        rw [hρ] at this; cases this
        rw [if_neg (hdel2 c (by rw [q9]; rfl))]
        exact hlp
      · exact absurd rfl (e st pe li))
    (fun x D0 e => by
      split at e
      · cases e
      · obtain ⟨l, q1, q2, q3⟩ := hB.lp x D0 e
        exact ⟨⟨l, q1, q2, q3⟩, hB.lpB x D0 e⟩)
    hB.dsI
  open Classical in
  have hleF : G.le { G2.cut h2.length with lpD := fun x => if del x then none else G2.lpD x, ds := G2.ds } :=
    ⟨hleC.w0, hleC.ρ, hleC.F, hleC.ar, fun x D0 e => by
      show (if del x then none else G2.lpD x) = some D0
      rw [if_neg (hdel2 x (by rw [e]; rfl))]; exact hle2.lpD x D0 e, hle2.ds, fun x D0 e ed => by
      have e' : (if del x then none else G2.lpD x) = some D0 := e
      split at e'
      · cases e'
      · exact hle2.lpN x D0 e' ed⟩
  have hTR : ∀ G' : Gh, G'.ρ = (G2.cut h2.length).ρ → G'.F = (G2.cut h2.length).F → G'.ar = (G2.cut h2.length).ar → TR N G' σ a.tmps := fun G' e1 e2 e3 =>
    ⟨ht.1, fun i => VR.same e1 e2 e3 (((ht.2 i).mono hle2).cut (by rw [hlen]; exact (ht.2 i).rb hI.upTo))⟩
  have hDs : ∀ (G' : Gh), G'.ds = G2.ds → (∀ x, G'.lpD x = if del x then none else G2.lpD x) → ∀ D0 ∈ marks, ¬ G.ds D0 ∧ G'.ds D0 ∧ ∀ x, G'.lpD x ≠ some D0 := fun G' e1 e2 D0 h0 => by
    obtain ⟨q1, q2, q3⟩ := hdel3 D0 h0
    refine ⟨q1, by rw [e1]; exact q2, fun x e => ?_⟩
    rw [e2] at e
    split at e
    · cases e
    · rename_i hn; exact hn (q3 x e)
  generalize w3.putObj b (.loop { l3 with state := .exhausted }) = W at hC ⊢
  rw [m4]
  cases pe with
  | none => exact ⟨_, σ, h2, marks, hleF, hC, hTR _ rfl rfl rfl, rfl, hDs _ rfl (fun _ => rfl), hnd, hafter⟩
  | some c => exact AWP.after (show AWP P Γ N c Q σ h2 from hafter) hr hleF (hDs _ rfl (fun _ => rfl)) hnd hC (a := { a with defers := marks.map mark ++ a.defers }) (hTR _ rfl rfl rfl) rfl
end
end Go.Abs
