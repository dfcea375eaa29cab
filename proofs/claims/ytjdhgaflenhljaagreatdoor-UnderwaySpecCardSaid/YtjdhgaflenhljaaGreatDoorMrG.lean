/- Texts joined: AbsO, AbsP, AbsR, AbsS, AbsT. No conditions. -/
import Derived.Test.YtjdhgaflenhljaaGreatDoorMrD
import Derived.Test.YtjdhgaflenhljaaGreatDoorMrE
/- Ranges over functions, seen abstractly: rounds, yield, the statement. It says nothing of any program; no conditions. -/
set_option linter.unusedSimpArgs false
set_option linter.unusedVariables false
namespace Go.Abs
open Go Go.RowKit

/-- yield's arguments in the parameters. -/
def putArgs : List Tmp → List AV → Tm → Tm
  | p :: ps, a :: as, σ => putArgs ps as ((p, a) :: σ)
  | _, _, σ => σ

/-- How a round may end. -/
def roundPostA (L : Nat) (li : LI) (R : AV → AH → Prop) : Exit → Tm → AH → Prop
  | .normal, _, h => h[L]? = some (.loop .busy none li) ∧ R (.bool true) (h.set L (.loop .ready none li))
  | .ret, _, h => h[L]? = some (.loop .busy none li) ∧ R (.bool false) (h.set L (.loop .done (some .ret) li))
  | .exit id, _, h => h[L]? = some (.loop .busy none li) ∧ R (.bool false) (h.set L (.loop .done (some (.exit id)) li))
  | .goto t, _, h => h[L]? = some (.loop .busy none li) ∧ R (.bool false) (h.set L (.loop .done (some (.goto t)) li))
  | _, _, _ => False

section
variable {P : Program} {Γ : Nat → Option (List AV)} {G : Gh} {h : AH} {w : World} {N : Nat} {σ : Tm} {Q : Exit → Tm → AH → Prop}

theorem TR.putArgs : ∀ (ps : List Tmp) (as : List AV) (vs : List Value) (σ : Tm) (t : Array Value), ps.length = as.length → as.length = vs.length → (∀ p ∈ ps, p < N) →
    (∀ (j : Nat) (c : AV) (v : Value), as[j]? = some c → vs[j]? = some v → VR G c v) → TR N G σ t → TR N G (Abs.putArgs ps as σ) ((ps.zip vs).foldl (fun t p => t.setIfInBounds p.1 p.2) t)
  | [], as, vs, σ, t, _, _, _, _, ht => by cases as <;> exact ht
  | p :: ps, [], vs, σ, t, h1, _, _, _, _ => by simp at h1
  | p :: ps, a :: as, [], σ, t, _, h2, _, _, _ => by simp at h2
  | p :: ps, a :: as, v :: vs, σ, t, h1, h2, hN, hv, ht => by
    simp only [List.zip_cons_cons, List.foldl_cons, Abs.putArgs]
    refine TR.putArgs ps as vs _ _ (by simpa using h1) (by simpa using h2) (fun q hq => hN q (List.mem_cons_of_mem _ hq)) (fun j c u e e' => hv (j + 1) c u (by simpa using e) (by simpa using e')) ?_
    have := TR.put (a := { tmps := t, defers := [] }) ht (d := some p) (fun x e => by cases e; exact hN p (List.mem_cons_self ..)) (hv 0 a v rfl rfl)
    exact this

theorem putObj_size {b : Nat} {o : Obj} : (w.putObj b o).heap.size = w.heap.size := by simp [World.putObj]
theorem putObj_same {b : Nat} {o : Obj} (hb : b < w.heap.size) : (w.putObj b o).heap[b]? = some o := by simp [World.putObj, hb]

/-- A loop's record turns. -/
theorem Inv.setLoop (hI : Inv Γ G h w) {L : Nat} {st st' : LoopState} {pe pe' : Option Code} {li : LI} (hL : h[L]? = some (.loop st pe li)) {b : Nat} (hb : G.ρ L = some b) {l : Loop} (hl : w.heap[b]? = some (.loop l)) :
    Inv Γ G (h.set L (.loop st' pe' li)) (w.putObj b (.loop { l with state := st', pending := pe' })) := by
  obtain ⟨b', l', k1, k2, k3, k4, k5, k6, k7, k8, k9, k10⟩ := hI.obj L _ hL
  rw [hb] at k1; cases k1
  rw [hl] at k2; cases k2
  have hnew := putObj_same (w := w) (o := .loop { l with state := st', pending := pe' }) (lt_of_heap hl)
  refine hI.write hb putObj_size rfl rfl rfl (fun k hk => World.putObj_heap_other hk) _ ⟨b, _, hb, hnew, rfl, rfl, k5, k6, k7, k8, k9, k10⟩ (fun D hD => ?_) (by rw [hl]; simp) (by rw [hL]; simp)
  obtain ⟨l2, e1, e2, _⟩ := hI.lp b D hD
  rw [hl] at e1; cases e1
  exact ⟨_, hnew, e2⟩

/-- **A round, out of its body.** -/
theorem ayield_of_body {L : Nat} {li : LI} {args : List AV} {R : AV → AH → Prop} (hL : h[L]? = some (.loop .ready none li)) (hN : ∀ p ∈ li.params.toList, p < li.N) (hlen : li.params.toList.length = args.length)
    (H : AWP P Γ li.N li.assign (thenA (fun σ' h' => h'[L]? = some (.loop .ready none li) ∧ AWP P Γ li.N li.body (roundPostA L li R) σ' (h'.set L (.loop .busy none li))) fun _ _ _ => False) (Abs.putArgs li.params.toList args li.σ) h) :
    AYield P Γ L args h R := fun G w vs b hI hv hb => by
  obtain ⟨b', l, k1, k2, k3, k4, k5, k6, k7, k8, k9, k10⟩ := hI.obj L _ hL
  rw [hb] at k1; cases k1
  have hsz : vs.size = l.params.size := by rw [k5, ← hv.1, ← hlen]; simp
  refine ⟨l.fn, _, l.assign, l.body, run_yield k2 hsz, fun r => roundIn_of_wpIn trivial ?_⟩
  have hlp : ∀ l', some b = some l' → ∃ D, G.lpD l' = some D := fun l' e => by cases e; exact ⟨_, k9⟩
  have ht : TR li.N G (Abs.putArgs li.params.toList args li.σ) ((l.params.zip vs).foldl (fun tmps (p : Tmp × Value) => tmps.setIfInBounds p.1 p.2) l.tmps) := by
    have := TR.putArgs (N := li.N) (G := G) li.params.toList args vs.toList li.σ l.tmps hlen (by have := hv.1; simpa using this) hN (fun j c v e e' => by
      obtain ⟨u, e1, e2⟩ := hv.get e
      rw [Array.getElem?_toList, e1] at e'; cases e'; exact e2) k8
    rw [k5, ← Array.foldl_toList, Array.toList_zip]
    exact this
  rw [k6, k7]
  refine wpIn_mono (H (some b) G w { tmps := _, defers := [] } hlp hI ht) fun e a1 w1 hp => ?_
  obtain ⟨G1, σ1, h1, Ds, e1, e2, e3, e4, e5, e6, e7⟩ := hp
  cases e with
  | normal =>
    obtain ⟨hL1, hbody⟩ := e7
    have hb1 := e1.ρ L b hb
    obtain ⟨b', l1, m1, m2, m3, m4, m5, m6, m7, m8, m9, m10⟩ := e2.obj L _ hL1
    rw [hb1] at m1; cases m1
    refine ⟨_, run_beginRound m2 m3, ?_⟩
    have hI1 := e2.setLoop (st' := .busy) (pe' := l1.pending) hL1 hb1 m2
    rw [m4] at hI1
    refine wpIn_mono (hbody (some b) G1 _ a1 (fun l' e => by cases e; exact ⟨_, m9⟩) (by have := hI1; simpa [m4] using this) e3) fun e a2 w2 hp2 => ?_
    obtain ⟨G2, σ2, h2, Ds2, f1, f2, f3, f4, f5, f6, f7⟩ := hp2
    have fin : ∀ (jump : Option Code), h2[L]? = some (.loop .busy none li) → R (.bool jump.isNone) (h2.set L (.loop (if jump.isNone then .ready else .done) jump li)) →
        ∃ v w', (Instr.endRound b jump).run P w2 = .ok v w' ∧ Res Γ G R (.returned v) w' := fun jump hL2 hR => by
      have hb2 := f1.ρ L b hb1
      obtain ⟨b', l2, n1, n2, _⟩ := f2.obj L _ hL2
      rw [hb2] at n1; cases n1
      exact ⟨_, _, run_endRound jump n2, _, G2, .bool jump.isNone, _, rfl, e1.trans f1, f2.setLoop hL2 hb2 n2, .bool _, hR⟩
    cases e with
    | normal => exact fin none f7.1 f7.2
    | ret => exact fin (some .ret) f7.1 f7.2
    | exit id => exact fin (some (.exit id)) f7.1 f7.2
    | goto t => exact fin (some (.goto t)) f7.1 f7.2
    | panic c => exact f7.elim
    | outgrown => exact f7.elim
  | _ => exact e7.elim

/-- The ghost's words on loops turn. -/
theorem Inv.relp (hI : Inv Γ G h w) (lpD' : Nat → Option Nat) (ds' : Nat → Prop)
    (h1 : ∀ (i : Nat) (st : LoopState) (pe : Option Code) (li : LI) (b : Nat) (l : Loop), h[i]? = some (.loop st pe li) → G.ρ i = some b → w.heap[b]? = some (.loop l) → G.lpD b = some l.defers → lpD' b = some l.defers)
    (h2 : ∀ b D, lpD' b = some D → (∃ l, w.heap[b]? = some (.loop l) ∧ l.defers = D ∧ ds' D) ∧ G.w0.heap.size ≤ b)
    (h3 : ∀ D, ds' D → w.heap[D]? = some (.deferred (some [])) ∧ G.w0.heap.size ≤ D) : Inv Γ { G with lpD := lpD', ds := ds' } h w := by
  generalize hG' : ({ G with lpD := lpD', ds := ds' } : Gh) = G'
  have hF : G'.F = G.F := by subst hG'; rfl
  have hρ : G'.ρ = G.ρ := by subst hG'; rfl
  have har : G'.ar = G.ar := by subst hG'; rfl
  have hlp : G'.lpD = lpD' := by subst hG'; rfl
  have hds : G'.ds = ds' := by subst hG'; rfl
  have hw0 : G'.w0 = G.w0 := by subst hG'; rfl
  have hVR : ∀ {a : AV} {v : Value}, VR G a v → VR G' a v := fun hv => hv.same hρ hF har
  exact {
    below := by rw [hw0]; exact hI.below
    drw := by rw [hw0]; exact hI.drw
    fix := by rw [hF]; exact hI.fix
    obj := fun i ob e => by
      have ho := hI.obj i ob e
      cases ob with
      | row cs T => obtain ⟨b, vals, k1, k2, hv⟩ := ho; exact ⟨b, vals, by rw [hρ]; exact k1, k2, hv.1, fun j c e => hVR (hv.2 j c e)⟩
      | map ents clk =>
        obtain ⟨b, es, k1, k2, hl, hv⟩ := ho
        exact ⟨b, es, by rw [hρ]; exact k1, k2, hl, fun j e x he hx => ⟨(hv j e x he hx).1, hVR (hv j e x he hx).2.1, hVR (hv j e x he hx).2.2⟩⟩
      | iter m clk seen =>
        obtain ⟨b, mb, k1, k2, k3⟩ := ho
        refine ⟨b, mb, by rw [hρ]; exact k1, k2, ?_⟩
        cases m with
        | none => exact k3
        | some j => rw [hρ]; exact k3
      | siter s pos => obtain ⟨b, k1, k2⟩ := ho; exact ⟨b, by rw [hρ]; exact k1, k2⟩
      | arena n => obtain ⟨r, k1, k2⟩ := ho; exact ⟨r, by rw [har]; exact k1, k2⟩
      | loop st pend li =>
        obtain ⟨b, lp, k1, k2, k3, k4, k5, k6, k7, k8, k9, k10⟩ := ho
        exact ⟨b, lp, by rw [hρ]; exact k1, k2, k3, k4, k5, k6, k7, ⟨k8.1, fun i => hVR (k8.2 i)⟩, by rw [hlp]; exact h1 i st pend li b lp e k1 k2 k9, k10⟩
      | dead => trivial
      | hole => exact ⟨by rw [hρ]; exact ho.1, by rw [har]; exact ho.2⟩
      | frozen => trivial
    domρ := by rw [hρ]; exact hI.domρ
    domA := by rw [har]; exact hI.domA
    inj := by rw [hρ]; exact hI.inj
    base := by rw [hρ, hw0]; exact hI.base
    sep := by rw [hρ, hF]; exact hI.sep
    arB := fun i r b c sz T e e' => by
      rw [har] at e
      exact (hI.arB i r b c sz T e e').mono hw0 rfl (fun o v h => by rwa [hF] at h) (fun j h => by rwa [hρ] at h)
    arI := by rw [har]; exact hI.arI
    lp := fun b D e => by rw [hlp] at e; rw [hds]; exact (h2 b D e).1
    lpB := fun b D e => by rw [hlp] at e; rw [hw0]; exact (h2 b D e).2
    dsI := fun D e => by rw [hds] at e; rw [hw0]; exact h3 D e
    glob := fun g cs e => hVR (hI.glob g cs e) }

theorem Inv.lpD_none (hI : Inv Γ G h w) {b : Nat} (hb : w.heap.size ≤ b) : G.lpD b = none := by
  cases e : G.lpD b with
  | none => rfl
  | some D => obtain ⟨l, k, _⟩ := hI.lp b D e; have := lt_of_heap k; omega
theorem Inv.ds_not (hI : Inv Γ G h w) {D : Nat} (hD : w.heap.size ≤ D) : ¬ G.ds D := fun e => by have := lt_of_heap (hI.dsI D e).1; omega

/-- The ghost with a new loop. -/
def Gh.loop (G : Gh) (i b D : Nat) : Gh := { G.add i b with lpD := fun x => if x = b then some D else G.lpD x }

/-- **A new loop's record**, its block for deferred calls being known. -/
theorem Inv.newLoop (hI : Inv Γ G h w) (rc : Loop) (hD : G.ds rc.defers) (hst : rc.state = .ready) (hpe : rc.pending = none) {li : LI} (h1 : rc.params = li.params) (h2 : rc.assign = li.assign) (h3 : rc.body = li.body) (ht : TR li.N G li.σ rc.tmps) (hfn : ∀ f, li.fn = some f → rc.fn = f) :
    Inv Γ (G.loop h.length w.heap.size rc.defers) (h ++ [.loop .ready none li]) (w.alloc (.loop rc)) := by
  have hA := hI.alloc (.loop rc) .dead trivial
  have hnew : (w.alloc (.loop rc)).heap[w.heap.size]? = some (.loop rc) := heap_alloc_new w _
  have hB := hA.relp (fun x => if x = w.heap.size then some rc.defers else G.lpD x) G.ds (fun i st pe li b l e hρ hl hlp => by
      have : b ≠ w.heap.size := fun e' => by
        subst e'
        have : G.lpD w.heap.size = some l.defers := hlp
        rw [hI.lpD_none (Nat.le_refl _)] at this; cases this
      rw [if_neg this]; exact hlp)
    (fun b D e => by
      split at e
      · rename_i hb; subst hb; cases e; exact ⟨⟨rc, hnew, rfl, hD⟩, hI.below.size⟩
      · exact ⟨by obtain ⟨l, k1, k2, k3⟩ := hA.lp b D e; exact ⟨l, k1, k2, k3⟩, hA.lpB b D e⟩)
    hA.dsI
  have hρ : (G.loop h.length w.heap.size rc.defers).ρ h.length = some w.heap.size := Gh.add_same _ _ _
  have hC := hB.write (G := G.loop h.length w.heap.size rc.defers) (w' := w.alloc (.loop rc)) hρ rfl rfl rfl rfl (fun _ _ => rfl) (.loop .ready none li) ⟨w.heap.size, rc, hρ, hnew, hst, hpe, h1, h2, h3, ⟨ht.1, fun i => ?_⟩, by simp [Gh.loop], hfn⟩
    (fun D hD' => ⟨rc, hnew, by simp [Gh.loop] at hD'; exact hD'⟩) (by rw [hnew]; simp) (by simp)
  · simpa using hC
  · refine VR.same (G := G.add h.length w.heap.size) ?_ ?_ ?_ ((ht.2 i).mono (hI.add_le w.heap.size)) <;> rfl

/-- **A new block for deferred calls.** -/
theorem Inv.newD (hI : Inv Γ G h w) : Inv Γ { G with ds := fun x => G.ds x ∨ x = w.heap.size } h (w.alloc (.deferred (some []))) :=
  (hI.alloc_any (.deferred (some []))).relp G.lpD (fun x => G.ds x ∨ x = w.heap.size) (fun _ _ _ _ _ _ _ _ _ h => h)
    (fun b D e => by
      obtain ⟨l, k1, k2, k3⟩ := (hI.alloc_any (.deferred (some []))).lp b D e
      exact ⟨⟨l, k1, k2, .inl k3⟩, hI.lpB b D e⟩)
    (fun D e => by
      rcases e with e | rfl
      · exact (hI.alloc_any (.deferred (some []))).dsI D e
      · exact ⟨heap_alloc_new w _, hI.below.size⟩)

/-- What a loop may leave of the objects that were there before it. -/
def LoopKept (h h2 : AH) : Prop := h2.length = h.length ∧ ∀ (i : Nat) (ob : AObj), h2[i]? = some ob → h[i]? = some ob ∨ (RBobj h.length ob ∧ ∀ st pe li, ob ≠ .loop st pe li)

theorem LoopKept.refl (h : AH) : LoopKept h h := ⟨rfl, fun _ _ e => .inl e⟩

/-- What comes behind a loop over a function. -/
def afterLoop (P : Program) (Γ : Nat → Option (List AV)) (N : Nat) (Q : Exit → Tm → AH → Prop) (σ : Tm) (h : AH) : Option Code → Prop
  | none => Q .normal σ h
  | some c => AWP P Γ N c Q σ h

end
end Go.Abs

/- Contracts whose callee leaves objects of its own behind, or turns some of the caller's. It says nothing of any program; no conditions. -/
set_option linter.unusedSimpArgs false
set_option linter.unusedVariables false
namespace Go.Abs
open Go Go.RowKit

section
variable {P : Program} {Γ : Nat → Option (List AV)} {G : Gh} {h : AH} {w : World} {N : Nat} {σ : Tm} {Q : Exit → Tm → AH → Prop}

/-! ### What a function's end asks -/
@[go_sem] theorem ex_app (h l : AH) : (∃ m, h ++ l = h ++ m) = True := eq_true ⟨l, rfl⟩
@[go_sem] theorem ex_self (h : AH) : (∃ m, h = h ++ m) = True := eq_true ⟨[], by simp⟩
@[go_sem] theorem ex_cons1 (h l : AH) (a : AObj) : (∃ m, h ++ (a :: l) = h ++ (a :: m)) = True := eq_true ⟨l, rfl⟩
@[go_sem] theorem ex_cons2 (h l : AH) (a b : AObj) : (∃ m, h ++ (a :: b :: l) = h ++ (a :: b :: m)) = True := eq_true ⟨l, rfl⟩
@[go_sem] theorem ex_cons3 (h l : AH) (a b c : AObj) : (∃ m, h ++ (a :: b :: c :: l) = h ++ (a :: b :: c :: m)) = True := eq_true ⟨l, rfl⟩
@[go_sem] theorem ex_cons4 (h l : AH) (a b c d : AObj) : (∃ m, h ++ (a :: b :: c :: d :: l) = h ++ (a :: b :: c :: d :: m)) = True := eq_true ⟨l, rfl⟩
@[go_sem] theorem rb_bool (n : Nat) (b : Bool) : RB n (.bool b) = True := eq_true (.bool b)
@[go_sem] theorem rb_int (n : Nat) (k : IntKind) (x : Int) : RB n (.int k x) = True := eq_true (.int k x)
@[go_sem] theorem rb_str (n : Nat) (s : ByteArray) : RB n (.str s) = True := eq_true (.str s)
@[go_sem] theorem rb_nilsl (n : Nat) : RB n (.sl [] .full) = True := eq_true (.slFull (fun _ h => by cases h))
@[go_sem] theorem rb_nilfree (n : Nat) : RB n (.sl [] .free) = True := eq_true (.sl' (fun _ h => by cases h))
@[go_sem] theorem rb_tuple (n : Nat) (l : List AV) : RB n (.tuple l) = RBs n l := propext ⟨fun h => by cases h; assumption, fun h => .tuple' h⟩
@[go_sem] theorem rb_agg (n : Nat) (l : List AV) : RB n (.agg l) = RBs n l := propext ⟨fun h => by cases h; assumption, fun h => .agg' h⟩
@[go_sem] theorem rbs_cons (n : Nat) (a : AV) (l : List AV) : RBs n (a :: l) = (RB n a ∧ RBs n l) := propext ⟨fun h => ⟨h 0 a rfl, fun j c e => h (j + 1) c e⟩, fun h => .cons h.1 h.2⟩
@[go_sem] theorem rbs_nil (n : Nat) : RBs n [] = True := eq_true (RBs.nil n)

/-- A call that turns the heap to this one. -/
theorem ACalls.detH {g : FuncId} {as : List AV} {R : AV → AH → Prop} {v : AV} {h2 : AH} (H : ACalls P Γ g as h fun v' h' => h' = h2 ∧ v' = v) (hR : R v h2) : ACalls P Γ g as h R := H.mono fun v' h' e => by rw [e.1, e.2]; exact hR
theorem ACalls.heap {g : FuncId} {as : List AV} {R : AV → AH → Prop} {h1 : AH} (H : ACalls P Γ g as h1 R) (e : h1 = h) : ACalls P Γ g as h R := e ▸ H
theorem ACalls.args {g : FuncId} {as bs : List AV} {R : AV → AH → Prop} (H : ACalls P Γ g as h R) (e : as = bs) : ACalls P Γ g bs h R := e ▸ H

/-- One value may be taken for another, of which less is known. -/
def Wk (a b : AV) : Prop := ∀ G v, VR G a v → VR G b v
theorem Wk.refl (a : AV) : Wk a a := fun _ _ h => h
theorem Wk.sl (rows : List AV) (own : Own) : Wk (.sl rows own) (.sl rows .free) := fun G v h => by
  cases h with
  | sl vals h1 h2 h3 h4 h5 h6 => exact .sl vals h1 h2 h3 h4 h5 trivial
/-- Pairwise. -/
inductive Wks : List AV → List AV → Prop
  | nil : Wks [] []
  | cons {a b : AV} {l m : List AV} (h : Wk a b) (k : Wks l m) : Wks (a :: l) (b :: m)
theorem Wks.get {l m : List AV} (h : Wks l m) : l.length = m.length ∧ ∀ (j : Nat) (c : AV), m[j]? = some c → ∃ d, l[j]? = some d ∧ Wk d c := by
  induction h with
  | nil => exact ⟨rfl, fun j c e => by simp at e⟩
  | cons h _ ih =>
    refine ⟨by simp [ih.1], fun j c e => ?_⟩
    cases j with
    | zero => simp at e; subst e; exact ⟨_, rfl, h⟩
    | succ j => exact ih.2 j c (by simpa using e)
theorem Wks.refl : ∀ l : List AV, Wks l l
  | [] => .nil
  | a :: l => .cons (.refl a) (Wks.refl l)
theorem Wk.tuple {l m : List AV} (h : Wks l m) : Wk (.tuple l) (.tuple m) := fun G v hv => by
  cases hv with
  | tuple h1 h2 => exact .tuple (by rw [← h.get.1, h1]) fun j c e => by obtain ⟨d, e1, e2⟩ := h.get.2 j c e; exact e2 _ _ (h2 j d e1)
theorem Wk.agg {l m : List AV} (h : Wks l m) : Wk (.agg l) (.agg m) := fun G v hv => by
  cases hv with
  | agg h1 h2 => exact .agg (by rw [← h.get.1, h1]) fun j c e => by obtain ⟨d, e1, e2⟩ := h.get.2 j c e; exact e2 _ _ (h2 j d e1)

/-- **A contract that leaves the heap as it was**, less being known of what is handed back. -/
theorem ACalls.dropW {f : FuncId} {args : List AV} {R : AV → Prop} (H : ACalls P Γ f args h fun v h' => (∃ l, h' = h ++ l) ∧ ∃ v', Wk v v' ∧ RB h.length v' ∧ R v') : ACalls P Γ f args h fun v h' => h' = h ∧ R v :=
  ACalls.drop ⟨H.1, fun G w vs hI hv => (H.2 G w vs hI hv).mono fun e w' hr => by
    obtain ⟨v, G', av, h', rfl, h2, h3, h4, h5, v', h6, h7, h8⟩ := hr
    exact ⟨v, G', v', h', rfl, h2, h3, h6 _ _ h4, h5, h7, h8⟩⟩

/-- One own object turned, of words that speak of nothing. -/
theorem LoopKept.set {i : Nat} {ob : AObj} (hb : RBobj h.length ob) (hl : ∀ st pe li, ob ≠ .loop st pe li) : LoopKept h (h.set i ob) := by
  refine ⟨by simp, fun j o e => ?_⟩
  rw [List.getElem?_set] at e
  split at e
  · split at e
    · cases e; exact .inr ⟨hb, hl⟩
    · cases e
  · exact .inl e

def psOK (N : Nat) (ps : Array Tmp) : Bool := ps.toList.all (Nat.blt · N)
/-- A call of yield, its loop's words abbreviated. -/
theorem ayield_L {L N' : Nat} {fo : Option FuncId} {li : LI} {σ' : Tm} {ps : Array Tmp} {assign body : Code} {args : List AV} {R : AV → AH → Prop} (e : li = ⟨N', σ', ps, assign, body, fo⟩) (hL : h[L]? = some (.loop .ready none li)) (hN : psOK N' ps = true) (hlen : ps.toList.length = args.length)
    (hm : P.follows .mixedOrders = true) (hc1 : codeOK N' assign = true) (hc2 : codeOK N' body = true)
    (H : aCode P Γ N' assign (thenA (fun σ h' => h'[L]? = some (.loop .ready none li) ∧ aCode P Γ N' body (roundPostA L li R) σ (h'.set L (.loop .busy none li))) fun _ _ _ => False) (putArgs ps.toList args σ') h) : AYield P Γ L args h R := by
  subst e
  refine ayield_of_body hL (fun p hp => ?_) hlen ((aCode_ok hm _ _ _ _ hc1 H).mono fun e σ h he => ?_)
  · simp only [psOK, List.all_eq_true] at hN
    have := hN p hp
    simpa [Nat.blt_eq] using this
  · cases e with
    | normal => exact ⟨he.1, aCode_ok hm _ _ _ _ hc2 he.2⟩
    | _ => exact he
@[go_sem] theorem putArgs_cons (p : Tmp) (ps : List Tmp) (a : AV) (l : List AV) : putArgs (p :: ps) (a :: l) σ = putArgs ps l ((p, a) :: σ) := (rfl)
@[go_sem] theorem putArgs_nil : putArgs [] [] σ = σ := (rfl)
@[go_sem] theorem roundPostA_normal (L : Nat) (li : LI) (R : AV → AH → Prop) : roundPostA L li R .normal σ h = (h[L]? = some (.loop .busy none li) ∧ R (.bool true) (h.set L (.loop .ready none li))) := (rfl)
@[go_sem] theorem roundPostA_ret (L : Nat) (li : LI) (R : AV → AH → Prop) : roundPostA L li R .ret σ h = (h[L]? = some (.loop .busy none li) ∧ R (.bool false) (h.set L (.loop .done (some .ret) li))) := (rfl)
@[go_sem] theorem roundPostA_exit (L : Nat) (li : LI) (R : AV → AH → Prop) (id : Nat) : roundPostA L li R (.exit id) σ h = (h[L]? = some (.loop .busy none li) ∧ R (.bool false) (h.set L (.loop .done (some (.exit id)) li))) := (rfl)
@[go_sem] theorem afterLoop_none : afterLoop P Γ N Q σ h none = Q .normal σ h := (rfl)
theorem afterLoop_some {c : Code} (hm : P.follows .mixedOrders = true) (hc : codeOK N c = true) (H : aCode P Γ N c Q σ h) : afterLoop P Γ N Q σ h (some c) := aCode_ok hm _ _ _ _ hc H
theorem LoopKept.trans {h1 h2 : AH} (a : LoopKept h h1) (b : LoopKept h1 h2) : LoopKept h h2 :=
  ⟨b.1.trans a.1, fun i ob e => by
    rcases b.2 i ob e with e | e
    · exact a.2 i ob e
    · rw [a.1] at e; exact .inr e⟩
theorem hset_same {i : Nat} {o : AObj} (e : h[i]? = some o) : h.set i o = h := by
  refine List.ext_getElem? fun j => ?_
  rw [List.getElem?_set]
  split
  · rename_i hj; subst hj
    split
    · exact e.symm
    · rename_i hn; exact absurd (List.getElem?_eq_some_iff.1 e).1 hn
  · rfl
theorem hget_of {i : Nat} {o : AObj} (e : h[i]? = some o) : i < h.length := (List.getElem?_eq_some_iff.1 e).1
theorem hget_in {i : Nat} (l : AH) (hi : i < h.length) : (h ++ l)[i]? = h[i]? := List.getElem?_append_left hi

/-! ### Loops over a list's elements -/
/-- How a round over an element is left. -/
def roundL {α β : Type} (L : List Nat) (st : List α → β → Tm) (hp : β → AH) (inv : List α → List α → β → Prop) (don : List α) (x : α) (r : List α) (Q : Exit → Tm → AH → Prop) : Exit → Tm → AH → Prop
  | .normal, σ, h => ∃ b, inv (don ++ [x]) r b ∧ Wkt (keep L σ) (st (don ++ [x]) b) ∧ h = hp b
  | e, σ, h => Q e σ h
/-- Behind the last element no round ends. -/
def roundZ (Q : Exit → Tm → AH → Prop) : Exit → Tm → AH → Prop
  | .normal, _, _ => False
  | e, σ, h => Q e σ h
@[go_sem] theorem roundL_ret {α β : Type} {L : List Nat} {st : List α → β → Tm} {hp : β → AH} {inv : List α → List α → β → Prop} {don : List α} {x : α} {r : List α} : roundL L st hp inv don x r Q .ret σ h = Q .ret σ h := (rfl)
@[go_sem] theorem roundL_exit {α β : Type} {L : List Nat} {st : List α → β → Tm} {hp : β → AH} {inv : List α → List α → β → Prop} {don : List α} {x : α} {r : List α} (l : Nat) : roundL L st hp inv don x r Q (.exit l) σ h = Q (.exit l) σ h := (rfl)
@[go_sem] theorem roundZ_ret : roundZ Q .ret σ h = Q .ret σ h := (rfl)
@[go_sem] theorem roundZ_exit (l : Nat) : roundZ Q (.exit l) σ h = Q (.exit l) σ h := (rfl)
theorem roundL_next {α β : Type} {L : List Nat} {st : List α → β → Tm} {hp : β → AH} {inv : List α → List α → β → Prop} {don : List α} {x : α} {r : List α} (b : β) (h1 : inv (don ++ [x]) r b) (h2 : keep L σ = st (don ++ [x]) b) (h3 : h = hp b) :
    roundL L st hp inv don x r Q .normal σ h := ⟨b, h1, .of_eq h2, h3⟩

/-- **A loop over a list's elements.** -/
theorem awp_loopL {α β : Type} {c : Code} (xs : List α) (L : List Nat) (st : List α → β → Tm) (hp : β → AH) (inv : List α → List α → β → Prop) (b0 : β) (h1 : keep L σ = st [] b0) (h2 : h = hp b0) (h3 : inv [] xs b0)
    (hm : P.follows .mixedOrders = true) (hc : codeOK N c = true) (H1 : ∀ don x r b, xs = don ++ x :: r → inv don (x :: r) b → aCode P Γ N c (roundL L st hp inv don x r Q) (st don b) (hp b))
    (H0 : ∀ b, inv xs [] b → aCode P Γ N c (roundZ Q) (st xs b) (hp b)) : AWP P Γ N (.loop c) Q σ h := by
  refine awp_loop (fun n σ h => ∃ don rest b, n = rest.length ∧ xs = don ++ rest ∧ inv don rest b ∧ Wkt (keep L σ) (st don b) ∧ h = hp b) ⟨[], xs, b0, rfl, rfl, h3, .of_eq h1, h2⟩ fun n σ h hx => ?_
  obtain ⟨don, rest, b, rfl, hxs, hi, hs, rfl⟩ := hx
  refine AWP.keep L (AWP.wks ?_ hs)
  cases rest with
  | nil =>
    rw [List.append_nil] at hxs
    subst hxs
    refine (aCode_ok hm c _ _ _ hc (H0 b hi)).mono fun e σ h he => ?_
    cases e with
    | normal => exact he.elim
    | _ => exact he
  | cons x r =>
    refine (aCode_ok hm c _ _ _ hc (H1 don x r b hxs hi)).mono fun e σ h he => ?_
    cases e with
    | normal =>
      obtain ⟨b', k1, k2, k3⟩ := he
      exact ⟨r.length, by simp, don ++ [x], r, b', rfl, by simp [hxs], k1, k2, k3⟩
    | _ => exact he
end
end Go.Abs

/- Values of which less is known; appending to a list of one's own. It says nothing of any program; no conditions. -/
set_option linter.unusedSimpArgs false
set_option linter.unusedVariables false
namespace Go.Abs
open Go Go.RowKit

mutual
/-- A value whose slices' owners are forgotten. -/
def loose : AV → AV
  | .agg cs => .agg (looseL cs)
  | .tuple cs => .tuple (looseL cs)
  | .sl rows _ => .sl (looseL rows) .free
  | .top => .top
  | .int k n => .int k n
  | .bool b => .bool b
  | .str s => .str s
  | .ptr p => .ptr p
  | .eptr cs => .eptr cs
  | .ms i off len cap sz => .ms i off len cap sz
  | .map r => .map r
  | .func f a b => .func f a b
  | .yield l => .yield l
  | .nilFunc => .nilFunc
  | .iface t v => .iface t v
  | .nilIface => .nilIface
def looseL : List AV → List AV
  | [] => []
  | a :: l => loose a :: looseL l
end
theorem looseL_map (l : List AV) : looseL l = l.map loose := by
  induction l with
  | nil => rfl
  | cons a l ih => simp [looseL, ih]
theorem loose_cells (a : AV) : (loose a).cells = a.cells.map loose := by
  cases a <;> first | rfl | simp [loose, AV.cells, looseL_map]

theorem loose_VR {G : Gh} {a : AV} {v : Value} (h : VR G a v) : VR G (loose a) v := by
  induction h with
  | top v => exact .top v
  | int k n => exact .int k n
  | bool b => exact .bool b
  | str s => exact .str s
  | ptrNil => exact .ptrNil
  | ptr h => exact .ptr h
  | eptr vals hF hv _ => exact .eptr vals hF hv
  | @sl rows own a cap sz vals hcap hnil hsz hF _ hown ih =>
    have hg : ∀ (k : Nat) (r : AV) (j : Nat) (c : AV), (looseL rows)[k]? = some r → r.cells[j]? = some c → ∃ r0 c0, rows[k]? = some r0 ∧ r0.cells[j]? = some c0 ∧ c = loose c0 := fun k r j c e e' => by
      rw [looseL_map, List.getElem?_map] at e
      obtain ⟨r0, h0, rfl⟩ := Option.map_eq_some_iff.1 e
      rw [loose_cells, List.getElem?_map] at e'
      obtain ⟨c0, h1, rfl⟩ := Option.map_eq_some_iff.1 e'
      exact ⟨r0, c0, h0, h1, rfl⟩
    have hl : (looseL rows).length = rows.length := by rw [looseL_map]; simp
    rw [loose, ← hl]
    exact .sl vals (by rw [hl]; exact hcap) hnil (fun k r e => by
      rw [looseL_map, List.getElem?_map] at e
      obtain ⟨r0, h0, rfl⟩ := Option.map_eq_some_iff.1 e
      rw [loose_cells, List.length_map]; exact hsz k r0 h0) (fun k r j c e e' => by
      obtain ⟨r0, c0, h0, h1, _⟩ := hg k r j c e e'
      exact hF k r0 j c0 h0 h1) (fun k r j c e e' => by
      obtain ⟨r0, c0, h0, h1, rfl⟩ := hg k r j c e e'
      exact ih k r0 j c0 h0 h1) trivial
  | ms h => exact .ms h
  | mapNil => exact .mapNil
  | map h => exact .map h
  | func hf hc h1 h2 _ _ => exact .func hf hc h1 h2
  | yield h => exact .yield h
  | nilFunc => exact .nilFunc
  | iface t h _ => exact .iface t h
  | nilIface => exact .nilIface
  | agg hl _ ih =>
    refine .agg (by rw [looseL_map]; simpa using hl) fun j c e => ?_
    rw [looseL_map, List.getElem?_map] at e
    obtain ⟨c0, h0, rfl⟩ := Option.map_eq_some_iff.1 e
    exact ih j c0 h0
  | tuple hl _ ih =>
    refine .tuple (by rw [looseL_map]; simpa using hl) fun j c e => ?_
    rw [looseL_map, List.getElem?_map] at e
    obtain ⟨c0, h0, rfl⟩ := Option.map_eq_some_iff.1 e
    exact ih j c0 h0

section
variable {P : Program} {Γ : Nat → Option (List AV)} {G : Gh} {h : AH} {w : World} {N : Nat} {σ : Tm} {Q : Exit → Tm → AH → Prop}

/-- **A contract for arguments of which more is known.** -/
theorem ACalls.ofLoose {f : FuncId} {as bs : List AV} {R : AV → AH → Prop} (H : ACalls P Γ f bs h R) (e : looseL as = bs) : ACalls P Γ f as h R :=
  ⟨H.1, fun G w vs hI hv => H.2 G w vs hI (by
    subst e
    refine ⟨by rw [looseL_map]; simpa using hv.1, fun j c e => ?_⟩
    rw [looseL_map, List.getElem?_map] at e
    obtain ⟨c0, h0, rfl⟩ := Option.map_eq_some_iff.1 e
    exact loose_VR (hv.2 j c0 h0))⟩
/-- **A contract that leaves the heap as it was**, the owners of what is handed back being forgotten. -/
theorem ACalls.dropL {f : FuncId} {args : List AV} {R : AV → Prop} (H : ACalls P Γ f args h fun v h' => (∃ l, h' = h ++ l) ∧ RB h.length (loose v) ∧ R (loose v)) : ACalls P Γ f args h fun v h' => h' = h ∧ R v :=
  ACalls.dropW (H.mono fun v h' e => ⟨e.1, loose v, fun _ _ hv => loose_VR hv, e.2⟩)

/-- Rows of which less is known. -/
def Loos (h h' : AH) : Prop := h'.length = h.length ∧ ∀ (i : Nat) (ob : AObj), h'[i]? = some ob → h[i]? = some ob ∨ ∃ cs T, h[i]? = some (.row cs T) ∧ ob = .row (looseL cs) T
theorem Loos.refl (h : AH) : Loos h h := ⟨rfl, fun _ _ e => .inl e⟩
theorem Loos.set {i : Nat} {cs : List AV} {T : TypeId} (e : h[i]? = some (.row cs T)) : Loos h (h.set i (.row (looseL cs) T)) := by
  refine ⟨by simp, fun j ob ej => ?_⟩
  rw [List.getElem?_set] at ej
  split at ej
  · rename_i hj; subst hj
    split at ej
    · cases ej; exact .inr ⟨cs, T, e, rfl⟩
    · cases ej
  · exact .inl ej
theorem Inv.loos {h' : AH} (hI : Inv Γ G h w) (hl : Loos h h') : Inv Γ G h' w :=
  { hI with
    obj := fun i ob e => by
      rcases hl.2 i ob e with e1 | ⟨cs, T, e1, rfl⟩
      · exact hI.obj i ob e1
      · obtain ⟨b, v, h1, h2, h3⟩ := hI.obj i _ e1
        refine ⟨b, v, h1, h2, by rw [looseL_map]; simpa using h3.1, fun j c e => ?_⟩
        rw [looseL_map, List.getElem?_map] at e
        obtain ⟨c0, h0, rfl⟩ := Option.map_eq_some_iff.1 e
        exact loose_VR (h3.2 j c0 h0)
    domρ := fun i b e => by rw [hl.1]; exact hI.domρ i b e
    sep := fun i b o v hf e e' => hI.sep i b o v (fun e'' => by
      have hi : i < h'.length := by rw [hl.1]; exact (List.getElem?_eq_some_iff.1 e'').1
      have ei : h'[i]? = some h'[i] := List.getElem?_eq_getElem hi
      rcases hl.2 i _ ei with e1 | ⟨cs, T, e1, _⟩
      · rw [e''] at e1
        exact hf (ei.trans e1.symm)
      · rw [e''] at e1; cases e1) e e'
    domA := fun i r e => by rw [hl.1]; exact hI.domA i r e }
/-- **A contract that leaves rows of which less is known.** -/
theorem ACalls.loos {f : FuncId} {args : List AV} {R : AV → AH → Prop} (H : ACalls P Γ f args h fun v h' => ∃ h3, Loos h' h3 ∧ R v h3) : ACalls P Γ f args h R :=
  ⟨H.1, fun G w vs hI hv => (H.2 G w vs hI hv).mono fun e w' hr => by
    obtain ⟨v, G', av, h', h1, h2, h3, h4, h5, h6, h7⟩ := hr
    exact ⟨v, G', av, h5, h1, h2, h3.loos h6, h4, h7⟩⟩

attribute [go_sem] loose looseL
theorem looseL_maps {α : Type} (f : α → AV) (hf : ∀ x, loose (f x) = f x) (l : List α) : looseL (l.map f) = l.map f := by
  rw [looseL_map, List.map_map]; congr 1; funext x; exact hf x

/-! ### Appending -/
/-- Who owns a list of one's own, of n elements, among the objects behind some others. -/
def OwnAt (K j : AH) (n : Nat) : Own → Prop
  | .full => True
  | .arena i => ∃ i', i = K.length + i' ∧ j[i']? = some (.arena n)
  | .free => False

/-- More objects, and arenas' entries turned. -/
def Grew (j j' : AH) : Prop := j.length ≤ j'.length ∧ ∀ (i : Nat) (o : AObj), j[i]? = some o → (∀ n, o ≠ .arena n) → j'[i]? = some o
theorem Grew.refl (j : AH) : Grew j j := ⟨Nat.le_refl _, fun _ _ e _ => e⟩

theorem OwnAt.app {K j : AH} {n : Nat} {own : Own} (ho : OwnAt K j n own) (l : AH) : OwnAt K (j ++ l) n own := by
  cases own with
  | full => trivial
  | free => exact ho
  | arena i =>
    obtain ⟨i', rfl, e⟩ := ho
    exact ⟨i', rfl, hget_left l e⟩

theorem aAp_at {n by_ : Nat} {rows xs : List AV} {own : Own} {x : AV} {K j : AH} {C : AV → AH → Prop} (ho : OwnAt K j rows.length own) (hx : SrcIs x (K ++ j) xs) (h1 : RowsOK n rows) (h2 : RowsOK n xs)
    (h3 : rows.length + xs.length ≤ 9223372036854775807) (h4 : (rows.length + xs.length) * by_ ≤ 140737488355328)
    (H : ∀ j' own', OwnAt K j' (rows.length + xs.length) own' → Grew j j' → C (.sl (rows ++ xs) own') (K ++ j')) : aAp (some (n, by_)) (.sl rows own) x (K ++ j) C := by
  refine ⟨xs, hx, h1, h2, h3, h4, ?_⟩
  cases own with
  | free => exact ho.elim
  | full =>
    have := H (j ++ [.arena (rows.length + xs.length)]) (.arena (K.length + j.length)) ⟨j.length, rfl, by simp⟩ ⟨by simp, fun i o e _ => hget_left _ e⟩
    simpa [List.append_assoc] using this
  | arena i =>
    obtain ⟨i', rfl, e⟩ := ho
    have e' : (K ++ j)[K.length + i']? = some (.arena rows.length) := by rw [hget_add]; exact e
    show (match (K ++ j)[K.length + i']? with
      | some (.arena m) => m = rows.length ∧ C (.sl (rows ++ xs) (.arena (K.length + i'))) ((K ++ j).set (K.length + i') (.arena (rows.length + xs.length)))
      | _ => False)
    rw [e']
    refine ⟨rfl, ?_⟩
    rw [hset_add]
    have hi : i' < j.length := (List.getElem?_eq_some_iff.1 e).1
    refine H _ _ ⟨i', rfl, by rw [List.getElem?_set_self hi]⟩ ⟨by simp, fun k o ek hk => ?_⟩
    rw [List.getElem?_set]
    split
    · rename_i hik
      subst hik
      rw [e] at ek; cases ek
      exact absurd rfl (hk _)
    · exact ek
theorem aAp_sl {n by_ : Nat} {rows xs : List AV} {own o : Own} {K j : AH} {C : AV → AH → Prop} (ho : OwnAt K j rows.length own) (h1 : RowsOK n rows) (h2 : RowsOK n xs)
    (h3 : rows.length + xs.length ≤ 9223372036854775807) (h4 : (rows.length + xs.length) * by_ ≤ 140737488355328)
    (H : ∀ j' own', OwnAt K j' (rows.length + xs.length) own' → Grew j j' → C (.sl (rows ++ xs) own') (K ++ j')) : aAp (some (n, by_)) (.sl rows own) (.sl xs o) (K ++ j) C :=
  aAp_at ho rfl h1 h2 h3 h4 H
theorem aAp_full {n by_ : Nat} {rows xs : List AV} {o : Own} {C : AV → AH → Prop} (h1 : RowsOK n rows) (h2 : RowsOK n xs)
    (h3 : rows.length + xs.length ≤ 9223372036854775807) (h4 : (rows.length + xs.length) * by_ ≤ 140737488355328)
    (H : C (.sl (rows ++ xs) (.arena h.length)) (h ++ [.arena (rows.length + xs.length)])) : aAp (some (n, by_)) (.sl rows .full) (.sl xs o) h C :=
  ⟨xs, rfl, h1, h2, h3, h4, H⟩
theorem aAp_arena {n by_ i : Nat} {rows xs : List AV} {o : Own} {C : AV → AH → Prop} (hi : h[i]? = some (.arena rows.length)) (h1 : RowsOK n rows) (h2 : RowsOK n xs)
    (h3 : rows.length + xs.length ≤ 9223372036854775807) (h4 : (rows.length + xs.length) * by_ ≤ 140737488355328)
    (H : C (.sl (rows ++ xs) (.arena i)) (h.set i (.arena (rows.length + xs.length)))) : aAp (some (n, by_)) (.sl rows (.arena i)) (.sl xs o) h C := by
  refine ⟨xs, rfl, h1, h2, h3, h4, ?_⟩
  show (match h[i]? with
    | some (.arena m) => m = rows.length ∧ _
    | _ => False)
  rw [hi]
  exact ⟨rfl, H⟩
/-! ### Lists whose elements' owners are forgotten -/
def looseIn : AV → AV
  | .sl rows own => .sl (looseL rows) own
  | v => loose v
theorem looseIn_VR {a : AV} {v : Value} (h : VR G a v) : VR G (looseIn a) v := by
  cases h with
  | @sl rows own a cap sz vals hcap hnil hsz hF hv hown =>
    have h0 := loose_VR (VR.sl vals hcap hnil hsz hF hv hown)
    have hl : (looseL rows).length = rows.length := by rw [looseL_map]; simp
    have hg : ∀ (k : Nat) (r : AV) (j : Nat) (c : AV), (looseL rows)[k]? = some r → r.cells[j]? = some c → ∃ r0 c0, rows[k]? = some r0 ∧ r0.cells[j]? = some c0 ∧ c = loose c0 := fun k r j c e e' => by
      rw [looseL_map, List.getElem?_map] at e
      obtain ⟨r0, h0, rfl⟩ := Option.map_eq_some_iff.1 e
      rw [loose_cells, List.getElem?_map] at e'
      obtain ⟨c0, h1, rfl⟩ := Option.map_eq_some_iff.1 e'
      exact ⟨r0, c0, h0, h1, rfl⟩
    rw [looseIn, ← hl]
    refine VR.sl (sz := sz) vals (by rw [hl]; exact hcap) hnil (fun k r e => ?_) (fun k r j c e e' => ?_) (fun k r j c e e' => ?_) ?_
    · rw [looseL_map, List.getElem?_map] at e
      obtain ⟨r0, h0, rfl⟩ := Option.map_eq_some_iff.1 e
      rw [loose_cells, List.length_map]; exact hsz k r0 h0
    · obtain ⟨r0, c0, h0, h1, _⟩ := hg k r j c e e'
      exact hF k r0 j c0 h0 h1
    · obtain ⟨r0, c0, h0, h1, rfl⟩ := hg k r j c e e'
      exact loose_VR (hv k r0 j c0 h0 h1)
    · cases own with
      | free => trivial
      | full => show cap = (looseL rows).length; rw [hl]; exact hown
      | arena j =>
        obtain ⟨r, k1, k2, k3⟩ := hown
        refine ⟨r, k1, by rw [hl]; exact k2, fun e => ?_⟩
        have := k3 (by rw [← hl]; exact e)
        cases hbk : r.blk with
        | none => rw [hbk] at this; exact this
        | some bb =>
          obtain ⟨b1, c1, s1, T1⟩ := bb
          rw [hbk] at this
          exact ⟨this.1, this.2.1, fun hne => this.2.2 (fun e0 => hne (by rw [e0]; rfl))⟩
  | _ => exact loose_VR (by constructor <;> assumption)
def lsn (σ : Tm) : Tm := σ.map fun p => (p.1, looseIn p.2)
@[go_sem] theorem lsn_nil : lsn [] = [] := rfl
@[go_sem] theorem lsn_cons (i : Nat) (v : AV) (σ : Tm) : lsn ((i, v) :: σ) = (i, looseIn v) :: lsn σ := rfl
@[go_sem] theorem looseIn_sl (rows : List AV) (own : Own) : looseIn (.sl rows own) = .sl (looseL rows) own := rfl
@[go_sem] theorem looseIn_int (k : IntKind) (n : Int) : looseIn (.int k n) = .int k n := rfl
@[go_sem] theorem looseIn_bool (b : Bool) : looseIn (.bool b) = .bool b := rfl
@[go_sem] theorem looseIn_ptr (p : Option (Nat × Nat)) : looseIn (.ptr p) = .ptr p := rfl
@[go_sem] theorem looseIn_ms (i o l c s : Nat) : looseIn (.ms i o l c s) = .ms i o l c s := rfl
@[go_sem] theorem looseIn_map (p : Option Nat) : looseIn (.map p) = .map p := rfl
@[go_sem] theorem looseIn_func (f : FuncId) (a b : List AV) : looseIn (.func f a b) = .func f a b := rfl
@[go_sem] theorem looseIn_yield (l : Nat) : looseIn (.yield l) = .yield l := rfl
@[go_sem] theorem looseIn_top : looseIn .top = .top := rfl
theorem lk_lsn (σ : Tm) (i : Nat) : lk (lsn σ) i = looseIn (lk σ i) := by
  induction σ with
  | nil => rfl
  | cons p σ ih =>
    obtain ⟨j, v⟩ := p
    rw [lsn_cons]
    simp only [lk]
    split
    · rfl
    · exact ih
theorem Wkt.lsn (σ : Tm) : Wkt σ (Abs.lsn σ) := fun G i v h => by rw [lk_lsn]; exact looseIn_VR h
/-- Behind this point the owners of lists' elements are forgotten. -/
theorem AWP.lsn {c : Code} (H : AWP P Γ N c Q (Abs.lsn σ) h) : AWP P Γ N c Q σ h := H.wks (Wkt.lsn σ)
end
end Go.Abs

/- Arrays of one's own that nobody writes any more become lists. It says nothing of any program; no conditions. -/
set_option linter.unusedSimpArgs false
set_option linter.unusedVariables false
namespace Go.Abs
open Go Go.RowKit

/-- Cells as elements. -/
def rowsOf (sz : Nat) : Nat → List AV → List AV
  | 0, _ => []
  | k + 1, l => (if sz = 1 then l.headD .top else .agg (l.take sz)) :: rowsOf sz k (l.drop sz)
def fzOK (cs : List AV) (off len cap sz : Nat) : Bool := decide (off + len * sz ≤ cs.length) && decide (len ≤ cap) && (sz != 0) && cs.all fun c => !c.isAgg
mutual
/-- A value, an array of one's own being a list from now on. -/
def fzV (i : Nat) (cs : List AV) : AV → AV
  | .ms i' off len cap sz => if i' = i ∧ fzOK cs off len cap sz = true then .sl (rowsOf sz len (cs.drop off)) .free else .ms i' off len cap sz
  | .agg l => .agg (fzL i cs l)
  | .tuple l => .tuple (fzL i cs l)
  | .sl rows own => .sl (fzL i cs rows) own
  | .top => .top
  | .int k n => .int k n
  | .bool b => .bool b
  | .str s => .str s
  | .ptr none => .ptr none
  | .ptr (some (i', o)) => if i' = i then .eptr (cs.drop o) else .ptr (some (i', o))
  | .eptr l => .eptr l
  | .map r => .map r
  | .func f a b => .func f (fzL i cs a) (fzL i cs b)
  | .yield l => .yield l
  | .nilFunc => .nilFunc
  | .iface t v => .iface t v
  | .nilIface => .nilIface
def fzL (i : Nat) (cs : List AV) : List AV → List AV
  | [] => []
  | a :: l => fzV i cs a :: fzL i cs l
end
theorem fzL_map (i : Nat) (cs l : List AV) : fzL i cs l = l.map (fzV i cs) := by
  induction l with
  | nil => rfl
  | cons a l ih => simp [fzL, ih]
theorem rowsOf_length (sz : Nat) : ∀ (k : Nat) (l : List AV), (rowsOf sz k l).length = k
  | 0, _ => rfl
  | k + 1, l => by simp [rowsOf, rowsOf_length sz k]
theorem isAgg_cells {c : AV} (h : c.isAgg = false) : c.cells = [c] := by cases c <;> first | rfl | simp [AV.isAgg] at h
theorem rowsOf_cells {sz : Nat} (hs : sz ≠ 0) : ∀ (k : Nat) (l : List AV), k * sz ≤ l.length → (∀ c ∈ l, c.isAgg = false) → ∀ (j : Nat) (r : AV), (rowsOf sz k l)[j]? = some r → r.cells = (l.drop (j * sz)).take sz
  | 0, l, _, _, j, r, e => by simp [rowsOf] at e
  | k + 1, l, hl, hc, j, r, e => by
    rw [Nat.succ_mul] at hl
    cases j with
    | zero =>
      simp only [rowsOf, List.getElem?_cons_zero, Option.some.injEq] at e
      subst e
      rw [Nat.zero_mul, List.drop_zero]
      split
      · rename_i h1; subst h1
        cases l with
        | nil => simp at hl
        | cons a l => simpa using isAgg_cells (hc a (by simp))
      · rfl
    | succ j =>
      simp only [rowsOf, List.getElem?_cons_succ] at e
      rw [rowsOf_cells hs k (l.drop sz) (by rw [List.length_drop]; omega) (fun c hc' => hc c (List.mem_of_mem_drop hc')) j r e, List.drop_drop]
      congr 2
      rw [Nat.succ_mul]; omega
theorem rowsOf_one : ∀ (k : Nat) (l : List AV), k ≤ l.length → rowsOf 1 k l = l.take k
  | 0, l, _ => by simp [rowsOf]
  | k + 1, [], h => by simp at h
  | k + 1, a :: l, h => by simp [rowsOf, rowsOf_one k l (by simpa using h)]

section
variable {P : Program} {Γ : Nat → Option (List AV)} {G : Gh} {h : AH} {w : World} {N : Nat} {σ : Tm} {Q : Exit → Tm → AH → Prop}

theorem fz_le (hI : Inv Γ G h w) {i b : Nat} {cs : List AV} {T : TypeId} (hi : h[i]? = some (.row cs T)) (hb : G.ρ i = some b) (vals : Array Value) : G.le (G.fixed b vals) :=
  ⟨rfl, fun _ _ e => e, fun c o v e => by
    simp only [Gh.fixed]
    rw [if_neg (fun e' => by subst e'; exact hI.sep i c o v (by rw [hi]; simp) hb e)]; exact e, fun _ r e => ⟨r, e, Nat.le_refl _, fun _ => rfl⟩, fun _ _ e => e, fun _ e => e, fun b _ e _ => ⟨b, e⟩⟩

theorem fz_VR {i b : Nat} {cs : List AV} {vals : Array Value} (hle : G.le (G.fixed b vals)) (hb : G.ρ i = some b) (hv : VRs G cs vals) {a : AV} {v : Value} (h : VR G a v) : VR (G.fixed b vals) (fzV i cs a) v := by
  induction h with
  | top v => exact .top v
  | int k n => exact .int k n
  | bool b => exact .bool b
  | str s => exact .str s
  | ptrNil => exact .ptrNil
  | @ptr i' b' o h0 =>
    rw [fzV]
    split
    · rename_i hc
      subst hc
      rw [hb] at h0; cases h0
      have hat : ∀ (k : Nat) (c : AV), (cs.drop o)[k]? = some c → cs[o + k]? = some c := fun k c e => by rwa [List.getElem?_drop] at e
      refine .eptr (fun k => vals.getD (o + k) undef) (fun k c e => ?_) (fun k c e => ?_)
      · obtain ⟨u, q1, _⟩ := hv.get (hat k c e)
        simp only [Gh.fixed, if_true, Array.getD_eq_getD_getElem?, q1, Option.getD_some]
      · obtain ⟨u, q1, q2⟩ := hv.get (hat k c e)
        simp only [Array.getD_eq_getD_getElem?, q1, Option.getD_some]
        exact q2.mono hle
    · exact .ptr (hle.ρ _ _ h0)
  | eptr ws hF hv' _ => exact (VR.eptr ws hF hv').mono hle
  | @sl rows own a cap sz ws hcap hnil hsz hF hv' hown ih =>
    have hg : ∀ (k : Nat) (r : AV), (fzL i cs rows)[k]? = some r → ∃ r0, rows[k]? = some r0 ∧ r = fzV i cs r0 := fun k r e => by
      rw [fzL_map, List.getElem?_map] at e
      obtain ⟨r0, h0, rfl⟩ := Option.map_eq_some_iff.1 e
      exact ⟨r0, h0, rfl⟩
    have hcells : ∀ r0 : AV, (fzV i cs r0).cells = r0.cells.map (fzV i cs) := fun r0 => by
      cases r0 <;> first
        | rfl
        | (simp [fzV, AV.cells, fzL_map]; done)
        | skip
      · rename_i q
        rcases q with _ | ⟨i', o⟩
        · rfl
        · have e1 : (AV.ptr (some (i', o))).cells = [.ptr (some (i', o))] := rfl
          rw [e1, List.map_cons, List.map_nil, fzV]
          by_cases hc : i' = i
          · rw [if_pos hc]; rfl
          · rw [if_neg hc]; rfl
      · rename_i i' off len cap sz
        have e1 : (AV.ms i' off len cap sz).cells = [.ms i' off len cap sz] := rfl
        rw [e1, List.map_cons, List.map_nil, fzV]
        by_cases hc : i' = i ∧ fzOK cs off len cap sz = true
        · rw [if_pos hc]; rfl
        · rw [if_neg hc]; rfl
    have hl : (fzL i cs rows).length = rows.length := by rw [fzL_map]; simp
    rw [fzV, ← hl]
    refine VR.sl (sz := sz) ws (by rw [hl]; exact hcap) hnil (fun k r e => ?_) (fun k r j c e e' => ?_) (fun k r j c e e' => ?_) ?_
    · obtain ⟨r0, h0, rfl⟩ := hg k r e
      rw [hcells, List.length_map]; exact hsz k r0 h0
    · obtain ⟨r0, h0, rfl⟩ := hg k r e
      rw [hcells, List.getElem?_map] at e'
      obtain ⟨c0, h1, rfl⟩ := Option.map_eq_some_iff.1 e'
      obtain ⟨b', o, q1, q2⟩ := hF k r0 j c0 h0 h1
      exact ⟨b', o, q1, hle.F _ _ _ q2⟩
    · obtain ⟨r0, h0, rfl⟩ := hg k r e
      rw [hcells, List.getElem?_map] at e'
      obtain ⟨c0, h1, rfl⟩ := Option.map_eq_some_iff.1 e'
      exact ih k r0 j c0 h0 h1
    · have := hown.mono hle
      cases own with
      | free => trivial
      | full => show cap = (fzL i cs rows).length; rw [hl]; exact this
      | arena j =>
        obtain ⟨r, k1, k2, k3⟩ := this
        refine ⟨r, k1, by rw [hl]; exact k2, fun e => ?_⟩
        have := k3 (by rw [← hl]; exact e)
        cases hbk : r.blk with
        | none => rw [hbk] at this; exact this
        | some bb =>
          obtain ⟨b1, c1, s1, T1⟩ := bb
          rw [hbk] at this
          exact ⟨this.1, this.2.1, fun hne => this.2.2 (fun e0 => hne (by rw [e0]; rfl))⟩
  | @ms i' b' off len cap sz h0 =>
    rw [fzV]
    split
    · rename_i hc
      obtain ⟨rfl, hok⟩ := hc
      rw [hb] at h0; cases h0
      simp only [fzOK, Bool.and_eq_true, decide_eq_true_eq, bne_iff_ne, List.all_eq_true, Bool.not_eq_true'] at hok
      obtain ⟨⟨⟨h1, h2⟩, h3⟩, h4⟩ := hok
      have hlen := rowsOf_length sz len (cs.drop off)
      have hcs := rowsOf_cells h3 len (cs.drop off) (by rw [List.length_drop]; omega) (fun c hc => h4 c (List.mem_of_mem_drop hc))
      have hat : ∀ (k : Nat) (r : AV) (j : Nat) (c : AV), (rowsOf sz len (cs.drop off))[k]? = some r → r.cells[j]? = some c → cs[off + k * sz + j]? = some c := fun k r j c e e' => by
        rw [hcs k r e, List.getElem?_take] at e'
        split at e'
        · rw [List.getElem?_drop, List.getElem?_drop] at e'
          rw [← e']; congr 1; omega
        · cases e'
      have key := VR.sl (G := G.fixed b vals) (rows := rowsOf sz len (cs.drop off)) (own := .free) (a := some ⟨b, off, none⟩) (cap := cap) (sz := sz) (fun k j => vals.getD (off + k * sz + j) undef) (by rw [hlen]; exact h2) (fun e => by cases e) (fun k r e => by
          have hk : k < len := by have := (List.getElem?_eq_some_iff.1 e).1; rwa [hlen] at this
          rw [hcs k r e, List.length_take, List.length_drop, List.length_drop]
          have : (k + 1) * sz ≤ len * sz := Nat.mul_le_mul_right _ hk
          rw [Nat.succ_mul] at this
          omega) (fun k r j c e e' => by
          refine ⟨b, off, rfl, ?_⟩
          obtain ⟨u, q1, _⟩ := hv.get (hat k r j c e e')
          simp only [Gh.fixed, if_true, Array.getD_eq_getD_getElem?, q1, Option.getD_some]) (fun k r j c e e' => by
          obtain ⟨u, q1, q2⟩ := hv.get (hat k r j c e e')
          simp only [Array.getD_eq_getD_getElem?, q1, Option.getD_some]
          exact q2.mono hle) trivial
      rw [hlen] at key
      exact key
    · exact .ms h0
  | mapNil => exact .mapNil
  | map h => exact .map h
  | func hf hc h1 h2 ih1 ih2 =>
    refine .func (by rw [fzL_map]; simpa using hf) (by rw [fzL_map]; simpa using hc) (fun j c e => ?_) (fun j c e => ?_)
    · rw [fzL_map, List.getElem?_map] at e
      obtain ⟨c0, h0, rfl⟩ := Option.map_eq_some_iff.1 e
      exact ih1 j c0 h0
    · rw [fzL_map, List.getElem?_map] at e
      obtain ⟨c0, h0, rfl⟩ := Option.map_eq_some_iff.1 e
      exact ih2 j c0 h0
  | yield h => exact .yield h
  | nilFunc => exact .nilFunc
  | iface t h _ => exact (VR.iface t h).mono hle
  | nilIface => exact .nilIface
  | agg hl _ ih =>
    refine .agg (by rw [fzL_map]; simpa using hl) fun j c e => ?_
    rw [fzL_map, List.getElem?_map] at e
    obtain ⟨c0, h0, rfl⟩ := Option.map_eq_some_iff.1 e
    exact ih j c0 h0
  | tuple hl _ ih =>
    refine .tuple (by rw [fzL_map]; simpa using hl) fun j c e => ?_
    rw [fzL_map, List.getElem?_map] at e
    obtain ⟨c0, h0, rfl⟩ := Option.map_eq_some_iff.1 e
    exact ih j c0 h0

def Froze (i : Nat) (cs : List AV) (h h' : AH) : Prop := h'.length = h.length ∧ ∀ (j : Nat) (ob : AObj), h'[j]? = some ob → (j = i ∧ ob = .frozen) ∨ (j ≠ i ∧ (h[j]? = some ob ∨ ∃ c0 T, h[j]? = some (.row c0 T) ∧ ob = .row (fzL i cs c0) T))
theorem Inv.freeze (hI : Inv Γ G h w) {i : Nat} {cs : List AV} {T : TypeId} (hi : h[i]? = some (.row cs T)) {h' : AH} (hf : Froze i cs h h') :
    ∃ b vals, G.le (G.fixed b vals) ∧ Inv Γ (G.fixed b vals) h' w ∧ ∀ a v, VR G a v → VR (G.fixed b vals) (fzV i cs a) v := by
  obtain ⟨b, vals, h1, h2, h3⟩ := hI.row hi
  have hle := fz_le hI hi h1 vals
  have hV := fun a v (hv : VR G a v) => fz_VR (i := i) hle h1 h3 hv
  refine ⟨b, vals, hle, ?_, hV⟩
  have hF : ∀ c o v, (G.fixed b vals).F c o = some v → (c = b ∧ vals[o]? = some v) ∨ (c ≠ b ∧ G.F c o = some v) := fun c o v e => by
    simp only [Gh.fixed] at e
    split at e
    · rename_i hc; exact .inl ⟨hc, e⟩
    · rename_i hc; exact .inr ⟨hc, e⟩
  exact {
    below := hI.below
    drw := hI.drw
    fix := fun c o v e => by
      rcases hF c o v e with ⟨rfl, hv⟩ | ⟨_, hv⟩
      · rw [cell_of h2]; exact hv
      · exact hI.fix c o v hv
    obj := fun j ob e => by
      rcases hf.2 j ob e with ⟨_, rfl⟩ | ⟨_, e1 | ⟨c0, T0, e1, rfl⟩⟩
      · trivial
      · exact (hI.obj j ob e1).mono hle (fun _ _ => rfl) (fun _ h => h) (fun h => h)
      · obtain ⟨b0, v0, k1, k2, k3⟩ := hI.row e1
        refine ⟨b0, v0, k1, k2, by rw [fzL_map]; simpa using k3.1, fun q c e => ?_⟩
        rw [fzL_map, List.getElem?_map] at e
        obtain ⟨c1, q1, rfl⟩ := Option.map_eq_some_iff.1 e
        exact hV _ _ (k3.2 q c1 q1)
    domρ := fun j c e => by rw [hf.1]; exact hI.domρ j c e
    domA := fun j r e => by rw [hf.1]; exact hI.domA j r e
    inj := hI.inj
    base := hI.base
    sep := fun j c o v hz e e' => by
      have hjl : j < h'.length := by rw [hf.1]; exact hI.domρ j c e
      have ej : h'[j]? = some h'[j] := List.getElem?_eq_getElem hjl
      rcases hf.2 j _ ej with ⟨_, e1⟩ | ⟨hji, e1⟩
      · exact hz (ej.trans (by rw [e1]))
      · rcases hF c o v e' with ⟨rfl, _⟩ | ⟨_, hv⟩
        · exact hji (hI.inj j i c e h1)
        · refine hI.sep j c o v (fun e2 => ?_) e hv
          rcases e1 with e1 | ⟨c0, T0, e1, _⟩
          · rw [e2] at e1; exact hz (ej.trans e1.symm)
          · rw [e2] at e1; cases e1
    arB := fun j r c k sz T' e e' => (hI.arB j r c k sz T' e e').mono (G' := G.fixed b vals) rfl rfl (fun o v hv => by
      rcases hF c o v hv with ⟨rfl, _⟩ | ⟨_, hv⟩
      · exact absurd h1 ((hI.arB j r c k sz T' e e').ρ i)
      · exact hv) (fun _ h => h)
    arI := hI.arI
    lp := hI.lp
    lpB := hI.lpB
    dsI := hI.dsI
    glob := fun g c e => (hI.glob g c e).mono hle }

/-- **A contract that leaves an array of one's own**, which is a list from now on. -/
theorem ACalls.freeze {f : FuncId} {args : List AV} {R : AV → AH → Prop} (H : ACalls P Γ f args h fun v h' => ∃ i cs T h3, h'[i]? = some (.row cs T) ∧ Froze i cs h' h3 ∧ R (fzV i cs v) h3) : ACalls P Γ f args h R :=
  ⟨H.1, fun G w vs hI hv => (H.2 G w vs hI hv).mono fun e w' hr => by
    obtain ⟨v, G', av, h', h1, h2, h3, h4, i, cs, T, hh, k1, k2, k3⟩ := hr
    obtain ⟨b, vals, q1, q2, q3⟩ := h3.freeze k1 k2
    exact ⟨v, _, _, hh, h1, h2.trans q1, q2, q3 _ _ h4, k3⟩⟩
/-- **An array of one's own is a list from now on.** -/
theorem AWP.freeze {c : Code} {i : Nat} {cs : List AV} {T : TypeId} {h' : AH} (hi : h[i]? = some (.row cs T)) (hf : Froze i cs h h') (H : AWP P Γ N c Q (σ.map fun p => (p.1, fzV i cs p.2)) h') : AWP P Γ N c Q σ h := fun r G w a hr hI ht => by
  obtain ⟨b, vals, q1, q2, q3⟩ := hI.freeze hi hf
  have hl : ∀ (σ : Tm) (j : Nat), lk (σ.map fun p => (p.1, fzV i cs p.2)) j = fzV i cs (lk σ j) := fun σ j => by
    induction σ with
    | nil => rfl
    | cons p σ ih =>
      obtain ⟨q, v⟩ := p
      simp only [List.map_cons, lk]
      split
      · rfl
      · exact ih
  refine wpIn_mono (H r _ w a (fun l e => by obtain ⟨D, hD⟩ := hr l e; exact ⟨D, hD⟩) q2 ⟨ht.1, fun j => by rw [hl]; exact q3 _ _ (ht.2 j)⟩) fun e a' w' hp => ?_
  obtain ⟨G2, σ2, h2, Ds, k1, k2, k3, k4, k5, k6, k7⟩ := hp
  exact ⟨G2, σ2, h2, Ds, q1.trans k1, k2, k3, k4, k5, k6, k7⟩
theorem Froze.set {i : Nat} {cs : List AV} {T : TypeId} (hi : h[i]? = some (.row cs T)) : Froze i cs h (h.set i .frozen) := by
  refine ⟨by simp, fun j ob e => ?_⟩
  rw [List.getElem?_set] at e
  split at e
  · rename_i hj
    subst hj
    split at e
    · cases e; exact .inl ⟨rfl, rfl⟩
    · cases e
  · rename_i hj
    exact .inr ⟨fun e' => hj e'.symm, .inl e⟩
theorem Froze.row {i j : Nat} {cs c0 : List AV} {T0 : TypeId} {h' : AH} (hf : Froze i cs h h') (hj : j ≠ i) (e : h[j]? = some (.row c0 T0)) : Froze i cs h (h'.set j (.row (fzL i cs c0) T0)) := by
  refine ⟨by simp [hf.1], fun k ob ek => ?_⟩
  rw [List.getElem?_set] at ek
  split at ek
  · rename_i hk
    subst hk
    split at ek
    · cases ek; exact .inr ⟨hj, .inr ⟨c0, T0, e, rfl⟩⟩
    · cases ek
  · exact hf.2 k ob ek

/-- The mark: arrays that are made from here on are of one's own. -/
theorem AWP.mark {c : Code} (hN : N ≤ 1000000) (H : AWP P Γ N c Q ((1000000, .tuple []) :: σ) h) : AWP P Γ N c Q σ h := fun r G w a hr hI ht =>
  H r G w a hr hI ⟨ht.1, fun j => by
    simp only [lk]
    split
    · rename_i hj
      subst hj
      have : a.tmps.getD 1000000 undef = undef := by
        rw [Array.getD_eq_getD_getElem?, Array.getElem?_eq_none (by rw [ht.1]; exact hN)]; rfl
      rw [this]
      exact VR.undef G
    · exact ht.2 j⟩
end
end Go.Abs

/- Regions that draw their order, order by order. It says nothing of any program; no conditions. -/
set_option linter.unusedSimpArgs false
set_option linter.unusedVariables false
namespace Go.Abs
open Go Go.RowKit

/-- All orders in which a region may be run. -/
def ordersOf (ops : Array Oper) : Nat → Array Bool → List (List Nat)
  | 0, _ => [[]]
  | fuel + 1, listed => match Region.ready .any ops listed with
    | [] => [[]]
    | r => r.flatMap fun i => (ordersOf ops fuel (listed.setIfInBounds i true)).map (i :: ·)

theorem linearise_mem {ops : Array Oper} : ∀ (fuel t : Nat) (listed : Array Bool), Region.linearise.go .any ops fuel t listed [] ∈ ordersOf ops fuel listed
  | 0, t, listed => by simp [Region.linearise.go, ordersOf]
  | fuel + 1, t, listed => by
    simp only [Region.linearise.go]
    change (match (Region.ready .any ops listed)[t % (Region.ready .any ops listed).length]? with
      | some i => Region.linearise.go .any ops fuel (t / (Region.ready .any ops listed).length) (listed.setIfInBounds i true) [i]
      | none => [].reverse) ∈ _
    rw [ordersOf]
    cases hr : Region.ready .any ops listed with
    | nil => simp
    | cons x xs =>
      have hlt : t % (x :: xs).length < (x :: xs).length := Nat.mod_lt _ (by simp)
      rw [List.getElem?_eq_getElem hlt]
      simp only []
      rw [linearise_go_acc, List.reverse_singleton, List.singleton_append]
      exact List.mem_flatMap.2 ⟨_, List.getElem_mem hlt, List.mem_map.2 ⟨_, linearise_mem fuel _ _, rfl⟩⟩

section
variable {P : Program} {Γ : Nat → Option (List AV)} {G : Gh} {h : AH} {w : World} {N : Nat} {σ : Tm} {Q : Exit → Tm → AH → Prop}

/-- **A region that draws its order: each order by itself.** -/
theorem awp_any {id : Nat} {ops : Array Oper} (hm : P.follows .mixedOrders = true) (hd : dstOK N ops = true) (H : ∀ l ∈ ordersOf ops ops.size (Array.replicate ops.size false), aOps P Γ ops.toList (fun σ h => Q .normal σ h) (l.filterMap (ops[·]?)) σ h) :
    AWP P Γ N (.region id ops true) Q σ h := fun r G w a hr hI ht => by
  refine wpIn_mono (wpIn_region_draw (Q := Post Γ N G a.defers (thenA (fun σ h => Q .normal σ h) fun _ _ _ => False)) fun t => ?_) fun e a' w' hp => ?_
  · simp only [Region.schedule, hm, Bool.true_or, if_true]
    refine aOps_ok _ σ h G _ a (fun i _ o ho x hx => ?_) (Gh.le.refl G) (hI.later (Nat.le_refl _) rfl rfl rfl (fun _ _ => rfl)) ht rfl (H _ (linearise_mem _ t _))
    have := List.all_eq_true.1 hd o (by simpa using Array.mem_of_getElem? ho)
    rw [hx] at this
    exact Nat.le_of_ble_eq_true this
  · refine hp.mono fun e σ h hq => ?_
    cases e <;> first | exact hq | exact hq.elim
/-- **A range over a function**, what was made meanwhile being kept. -/
theorem awp_rangeFuncK {g : Operand} {ps : Array Tmp} {assign body : Code} {gf : FuncId} {first caps : List AV} (hg : ev Γ σ g = .func gf first caps)
    (H : ACalls P Γ gf (first ++ [.yield h.length] ++ caps) (h ++ [.loop .ready none ⟨N, σ, ps, assign, body, none⟩]) fun _ h' => ∃ h2 st pe l, h' = h2 ++ .loop st pe ⟨N, σ, ps, assign, body, none⟩ :: l ∧ h2.length = h.length ∧ (∀ (i : Nat) (ob : AObj), (h2 ++ .dead :: l)[i]? = some ob → h[i]? = some ob ∨ ∀ st pe li, ob ≠ .loop st pe li) ∧ st ≠ .busy ∧ afterLoop P Γ N Q σ (h2 ++ .dead :: l) pe) :
    AWP P Γ N (.rangeFunc g ps assign body) Q σ h := fun r G w a hr hI ht => by
  have hgv := ev_VR hI ht g
  rw [hg] at hgv
  generalize hvf : a.eval g = vf at hgv
  cases hgv with
  | func f1 f2 f3 f4 =>
  rename_i vfirst vcap
  obtain ⟨henter, hcall⟩ := H
  refine wpIn_rangeFunc fun fn _ => ?_
  -- the record is laid
  obtain ⟨D, marks, w1, b, G1, hrun, hIL, hle, ⟨hb1, hb2, hb3⟩, hmarks⟩ : ∃ (D : Nat) (marks : List Nat) (w1 : World) (b : Nat) (G1 : Gh),
      (Instr.enterLoop fn a.tmps ps assign body r).run P w = .ok (b, marks.map mark) w1 ∧
      Inv Γ G1 (h ++ [.loop .ready none ⟨N, σ, ps, assign, body, none⟩]) w1 ∧ G.le G1 ∧ (G1.ρ h.length = some b ∧ G1.lpD b = some D ∧ G.lpD b = none) ∧
      ((marks = [] ∧ ∃ x, G.lpD x = some D) ∨ (marks = [D] ∧ ¬ G.ds D ∧ ∀ x, G1.lpD x = some D → x = b)) := by
    have hleG : ∀ (G0 : Gh) (b D : Nat), G0.ρ = G.ρ → G0.F = G.F → G0.ar = G.ar → G0.w0 = G.w0 → G0.lpD = G.lpD → (∀ x, G.ds x → G0.ds x) → G.lpD b = none → ((∃ x, G.lpD x = some D) ∨ ¬ G.ds D) → G.le (G0.loop h.length b D) :=
      fun G0 b D e1 e2 e3 e4 e5 e6 e7 e8 => ⟨e4, fun i c e => by
          have := hI.domρ i c e
          simp only [Gh.loop, Gh.add, e1]
          rw [if_neg (by omega)]; exact e, fun b o v e => by simp only [Gh.loop, Gh.add, e2]; exact e, fun i r e => ⟨r, by simp only [Gh.loop, Gh.add, e3]; exact e, Nat.le_refl _, fun _ => rfl⟩, fun x D' e => by
          simp only [Gh.loop, e5]
          rw [if_neg (fun e' => by subst e'; rw [e7] at e; cases e)]; exact e, e6, fun x D' e ed => by
          simp only [Gh.loop, e5] at e
          split at e
          · cases e
            rcases e8 with e8 | e8
            · exact e8
            · exact absurd ed e8
          · exact ⟨x, e⟩⟩
    cases r with
    | none =>
      have h1 := hI.newD
      have h2 := h1.newLoop { state := .ready, pending := none, fn := fn, tmps := a.tmps, params := ps, assign := assign, body := body, defers := w.heap.size } (.inr rfl) rfl rfl (li := ⟨N, σ, ps, assign, body, none⟩) rfl rfl rfl
        ⟨ht.1, fun i => by refine VR.same (G := G) ?_ ?_ ?_ (ht.2 i) <;> rfl⟩ (fun f e => by cases e)
      simp only [World.size_alloc] at h2
      refine ⟨w.heap.size, [w.heap.size], _, w.heap.size + 1, _, run_enterLoop_outer fn a.tmps ps assign body, h2, ?_, ⟨Gh.add_same _ _ _, by simp [Gh.loop], hI.lpD_none (by omega)⟩, .inr ⟨rfl, hI.ds_not (Nat.le_refl _), fun x hx => ?_⟩⟩
      · exact hleG _ _ _ rfl rfl rfl rfl rfl (fun _ h => .inl h) (hI.lpD_none (by omega)) (.inr (hI.ds_not (Nat.le_refl _)))
      · simp only [Gh.loop] at hx
        split at hx
        · assumption
        · obtain ⟨l, _, _, k⟩ := hI.lp x _ hx
          exact absurd k (hI.ds_not (Nat.le_refl _))
    | some l0 =>
      obtain ⟨D, hD⟩ := hr l0 rfl
      obtain ⟨r0, k1, k2, k3⟩ := hI.lp l0 D hD
      have h2 := hI.newLoop { state := .ready, pending := none, fn := fn, tmps := a.tmps, params := ps, assign := assign, body := body, defers := r0.defers } (by rw [k2]; exact k3) rfl rfl (li := ⟨N, σ, ps, assign, body, none⟩) rfl rfl rfl ht (fun f e => by cases e)
      refine ⟨r0.defers, [], _, w.heap.size, _, run_enterLoop_inner k1 fn a.tmps ps assign body, h2, ?_, ⟨Gh.add_same _ _ _, by simp [Gh.loop], hI.lpD_none (Nat.le_refl _)⟩, .inl ⟨rfl, l0, by rw [k2]; exact hD⟩⟩
      exact hleG _ _ _ rfl rfl rfl rfl rfl (fun _ h => h) (hI.lpD_none (Nat.le_refl _)) (.inl ⟨l0, by rw [k2]; exact hD⟩)
  have hargs : VRs G1 (first ++ [.yield h.length] ++ caps) ((vfirst ++ #[.func (.yield b) #[] #[]]) ++ vcap) :=
    VRs.append (VRs.append ((show VRs G first vfirst from ⟨f1, f3⟩).mono hle) (VRs.one (VR.yield hb1))) ((show VRs G caps vcap from ⟨f2, f4⟩).mono hle)
  refine ⟨b, marks.map mark, w1, { target := .fn (.func gf) vcap, args := vfirst ++ #[.func (.yield b) #[] #[]] }, w1, gf, (vfirst ++ #[.func (.yield b) #[] #[]]) ++ vcap, w1, hrun, ?_, fun _ _ => trivial, ?_, fun e => by simp [Fr] at e, ?_⟩
  · simp only [resolve, rangeCall, hvf]
    simp [Deferred.ofValue, Act.eval]
  · simp [invoke, henter]
  refine CallsIn.mono (callsIn_Fr.2 (hcall G1 w1 _ hIL hargs)) fun e w3 hres => ?_
  obtain ⟨v, G2, av, h', rfl, k1, k2, _, h2, st, pe, l, rfl, hlen, hkept, hst, hafter⟩ := hres
  have hL : (h2 ++ .loop st pe ⟨N, σ, ps, assign, body, none⟩ :: l)[h.length]? = some (.loop st pe ⟨N, σ, ps, assign, body, none⟩) := by rw [← hlen]; simp
  obtain ⟨b', l3, m1, m2, m3, m4, m5, m6, m7, m8, m9, m10⟩ := k2.obj h.length _ hL
  have hb2' := k1.ρ _ _ hb1
  rw [hb2'] at m1; cases m1
  refine ⟨l3.pending, _, run_endLoop m2 (by rw [m3]; exact hst), ?_⟩
  have hnew := putObj_same (w := w3) (o := .loop { l3 with state := .exhausted }) (lt_of_heap m2)
  have hA := k2.write (w' := w3.putObj b (.loop { l3 with state := .exhausted })) hb2' putObj_size rfl rfl rfl (fun k hk => World.putObj_heap_other hk) .dead trivial (fun D0 hD0 => by
    obtain ⟨l4, e1, e2, _⟩ := k2.lp b D0 hD0
    rw [m2] at e1; cases e1
    exact ⟨_, hnew, e2⟩) (by rw [m2]; simp) (by rw [hL]; simp)
  rw [← hlen, List.set_append_right _ _ (Nat.le_refl _), Nat.sub_self, List.set_cons_zero] at hA
  have hle2 := hle.trans k1
  -- the loop's word is taken back
  obtain ⟨del, hdel1, hdel2, hdel3⟩ : ∃ del : Nat → Prop, del b ∧ (∀ x, (G.lpD x).isSome = true → ¬ del x) ∧ ∀ D0 ∈ marks, ¬ G.ds D0 ∧ G2.ds D0 ∧ ∀ x, G2.lpD x = some D0 → del x := by
    have hds : G2.ds D := by obtain ⟨_, _, _, k⟩ := hIL.lp b D hb2; exact k1.ds D k
    rcases hmarks with ⟨rfl, _⟩ | ⟨rfl, n1, n2⟩
    · refine ⟨fun x => x = b, rfl, fun x hx e => ?_, fun D0 h0 => by cases h0⟩
      subst e
      rw [hb3] at hx; cases hx
    · refine ⟨fun x => x = b ∨ G2.lpD x = some D, .inl rfl, fun x hx e => ?_, fun D0 h0 => ?_⟩
      · rcases e with rfl | e
        · rw [hb3] at hx; cases hx
        · cases hx' : G.lpD x with
          | none => rw [hx'] at hx; cases hx
          | some D' =>
            have := hle2.lpD x D' hx'
            rw [e] at this; cases this
            obtain ⟨_, _, _, k⟩ := hI.lp x D hx'
            exact n1 k
      · rw [List.mem_singleton] at h0; subst h0
        exact ⟨n1, hds, fun x hx => .inr hx⟩
  have hnd : marks.Nodup := by rcases hmarks with ⟨rfl, _⟩ | ⟨rfl, _⟩ <;> simp
  open Classical in
  have hC := hA.relp (fun x => if del x then none else G2.lpD x) G2.ds (fun i st pe li c l e hρ hl hlp => by
      rcases hkept i _ e with e | e
      · obtain ⟨c', l', q1, q2, q3, q4, q5, q6, q7, q8, q9, q10⟩ := hI.obj i _ e
        have := hle2.ρ i c' q1
        rw [hρ] at this; cases this
        rw [if_neg (hdel2 c (by rw [q9]; rfl))]
        exact hlp
      · exact absurd rfl (e st pe li))
    (fun x D0 e => by
      split at e
      · cases e
      · obtain ⟨l, q1, q2, q3⟩ := hA.lp x D0 e
        exact ⟨⟨l, q1, q2, q3⟩, hA.lpB x D0 e⟩)
    hA.dsI
  open Classical in
  have hleF : G.le { G2 with lpD := fun x => if del x then none else G2.lpD x, ds := G2.ds } :=
    ⟨hle2.w0, hle2.ρ, hle2.F, hle2.ar, fun x D0 e => by
      show (if del x then none else G2.lpD x) = some D0
      rw [if_neg (hdel2 x (by rw [e]; rfl))]; exact hle2.lpD x D0 e, hle2.ds, fun x D0 e ed => by
      have e' : (if del x then none else G2.lpD x) = some D0 := e
      split at e'
      · cases e'
      · exact hle2.lpN x D0 e' ed⟩
  have hTR : ∀ G' : Gh, G'.ρ = G2.ρ → G'.F = G2.F → G'.ar = G2.ar → TR N G' σ a.tmps := fun G' e1 e2 e3 =>
    ⟨ht.1, fun i => VR.same e1 e2 e3 ((ht.2 i).mono hle2)⟩
  have hDs : ∀ (G' : Gh), G'.ds = G2.ds → (∀ x, G'.lpD x = if del x then none else G2.lpD x) → ∀ D0 ∈ marks, ¬ G.ds D0 ∧ G'.ds D0 ∧ ∀ x, G'.lpD x ≠ some D0 := fun G' e1 e2 D0 h0 => by
    obtain ⟨q1, q2, q3⟩ := hdel3 D0 h0
    refine ⟨q1, by rw [e1]; exact q2, fun x e => ?_⟩
    rw [e2] at e
    split at e
    · cases e
    · rename_i hn; exact hn (q3 x e)
  generalize w3.putObj b (.loop { l3 with state := .exhausted }) = W at hC ⊢
  rw [m4]
  cases pe with
  | none => exact ⟨_, σ, h2 ++ .dead :: l, marks, hleF, hC, hTR _ rfl rfl rfl, rfl, hDs _ rfl (fun _ => rfl), hnd, hafter⟩
  | some c => exact AWP.after (show AWP P Γ N c Q σ (h2 ++ .dead :: l) from hafter) hr hleF (hDs _ rfl (fun _ => rfl)) hnd hC (a := { a with defers := marks.map mark ++ a.defers }) (hTR _ rfl rfl rfl) rfl
/-- A range over a function, its loop's words abbreviated. -/
theorem awp_rangeFuncKL {g : Operand} {ps : Array Tmp} {assign body : Code} {gf : FuncId} {first caps : List AV} (hg : ev Γ σ g = .func gf first caps)
    (H : ∀ li : LI, li = ⟨N, σ, ps, assign, body, none⟩ → ACalls P Γ gf (first ++ [.yield h.length] ++ caps) (h ++ [.loop .ready none li]) fun _ h' => ∃ h2 st pe l, h' = h2 ++ .loop st pe li :: l ∧ h2.length = h.length ∧ (∀ (i : Nat) (ob : AObj), (h2 ++ .dead :: l)[i]? = some ob → h[i]? = some ob ∨ ∀ st pe li, ob ≠ .loop st pe li) ∧ st ≠ .busy ∧ afterLoop P Γ N Q σ (h2 ++ .dead :: l) pe) :
    AWP P Γ N (.rangeFunc g ps assign body) Q σ h := awp_rangeFuncK hg (H _ rfl)
end
end Go.Abs
