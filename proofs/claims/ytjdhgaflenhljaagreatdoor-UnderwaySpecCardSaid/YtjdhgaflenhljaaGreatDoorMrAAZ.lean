/- Texts joined: AbsZ, AbsZb. No conditions. -/
import Derived.Test.YtjdhgaflenhljaaGreatDoorMrAA
/- Functions that defer a call that recovers; the rules by which code that may panic is reckoned. It says nothing of any program; no conditions. -/
set_option linter.unusedSimpArgs false
set_option linter.unusedVariables false
namespace Go.Abs
open Go Go.RowKit

section
variable {P : Program} {Γ : Nat → Option (List AV)} {G : Gh} {h : AH} {w : World} {N B : Nat} {σ : Tm} {Q : Exit → Tm → AH → Prop} {f0 : FuncId}

/-- Operations among which a call is deferred. -/
def aOpsF (P : Program) (Γ : Nat → Option (List AV)) (K : Option (FuncId × List AV) → Tm → AH → Prop) : List Oper → Option (FuncId × List AV) → Tm → AH → Prop
  | [], d, σ, h => K d σ h
  | o :: rest, d, σ, h => match o.guard with
    | none => (match o.op with
      | .defer c => (match c.callee, d with
        | .value f, none => (match ev Γ σ f with
          | .func g first cap => aOpsF P Γ K rest (some (g, first ++ c.args.toList.map (ev Γ σ) ++ cap)) (put o.dst (.tuple []) σ) h
          | _ => False)
        | _, _ => False)
      | _ => aOper P Γ o (fun v σ h => aOpsF P Γ K rest d (put o.dst v σ) h) σ h)
    | some _ => False
/-- The deferred call, as the frame bears it. -/
def DR (G : Gh) (ds : List Deferred) : Option (FuncId × List AV) → Prop
  | none => ds = []
  | some (g, as) => ∃ vs vc, ds = [{ target := .fn (.func g) vc, args := vs }] ∧ VRs G as (vs ++ vc)
theorem DR.mono {G' : Gh} (hg : G.le G') {ds : List Deferred} {d : Option (FuncId × List AV)} (H : DR G ds d) : DR G' ds d := by
  cases d with
  | none => exact H
  | some q => obtain ⟨vs, vc, h1, h2⟩ := H; exact ⟨vs, vc, h1, h2.mono hg⟩
theorem aOpsF_ok {ops : Array Oper} {QW : Exit → Act → World → Prop} {G0 : Gh} {K : Option (FuncId × List AV) → Tm → AH → Prop} (hQ : ∀ d G σ h a w, G0.le G → Inv Γ G h w → TR N G σ a.tmps → DR G a.defers d → K d σ h → QW .normal a w) :
    ∀ (l : List Nat) (d : Option (FuncId × List AV)) (σ : Tm) (h : AH) (G : Gh) (w : World) (a : Act), (∀ i ∈ l, ∀ o, ops[i]? = some o → ∀ x, o.dst = some x → x < N) → G0.le G → Inv Γ G h w → TR N G σ a.tmps → DR G a.defers d → aOpsF P Γ K (l.filterMap (ops[·]?)) d σ h → wpOpsIn (Fr none) 0 P ops QW l a w := by
  intro l
  induction l with
  | nil => intro d σ h G w a _ hle hI ht hd H; exact hQ d G σ h a w hle hI ht hd H
  | cons i rest ih =>
    intro d σ h G w a hdst hle hI ht hd H
    rw [wpOpsIn_cons]
    unfold wpOpIn
    cases ho : ops[i]? with
    | none =>
      simp only [List.filterMap_cons, ho] at H
      exact ih d σ h G w a (fun j hj => hdst j (List.mem_cons_of_mem _ hj)) hle hI ht hd H
    | some o =>
      simp only [List.filterMap_cons, ho, aOpsF] at H
      have hdo := hdst i (List.mem_cons_self ..) o ho
      split at H
      · rename_i hg
        have hw : ∀ y, Region.wanted o y = true := fun y => by unfold Region.wanted; rw [hg]
        simp only [hw, if_true]
        split at H
        · rename_i c hop
          split at H
          · rename_i f hcal
            split at H
            · rename_i g first cap hf
              have hfv := ev_VR hI ht f
              have hargs := evs_VR hI ht c.args
              rw [hf] at hfv
              generalize hvf : a.eval f = vf at hfv
              cases hfv with
              | func h1 h2 h3 h4 =>
                rename_i vfirst vcap
                refine ⟨fun _ _ => trivial, ?_⟩
                show o.uponIn (Fr none) 0 P a _ _ ((o.semAt none a.eval).run P w)
                have hrun : (o.semAt none a.eval).run P w = .ok (.defer { target := .fn (.func g) vcap, args := vfirst ++ c.args.map a.eval }) w := by
                  rw [Oper.semAt_none]
                  simp [execOp, hop, resolve, hcal, hvf, Deferred.ofValue]
                rw [hrun, Oper.uponIn_defer]
                have had : a.defers = [] := hd
                refine ih _ _ h G w _ (fun j hj => hdst j (List.mem_cons_of_mem _ hj)) hle hI (TR.put (a := { a with defers := _ :: a.defers }) ht hdo (VR.undef G)) ?_ H
                rw [put_defers]
                exact ⟨_, _, by rw [had], VRs.append (VRs.append ⟨h1, h3⟩ hargs) ⟨h2, h4⟩⟩
            · exact H.elim
          · exact H.elim
        · exact aOper_ok hI ht H fun u v G' h' w' k1 k2 k3 k4 =>
            ih d _ h' G' w' _ (fun j hj => hdst j (List.mem_cons_of_mem _ hj)) (hle.trans k1) k2 ((ht.mono k1).put hdo k3) (by rw [put_defers]; exact hd.mono k1) k4
      · exact H.elim

/-- How the body of a function with a deferred call may end. -/
def endF (P : Program) (Γ : Nat → Option (List AV)) (rs : List ResultVar) (R : AV → AH → Prop) (g : FuncId) (as : List AV) : Exit → Tm → AH → Prop
  | .ret, σ, h => ACallsD P Γ g as h none fun h' => aResL P σ h' rs (conR R h')
  | .normal, σ, h => ACallsD P Γ g as h none fun h' => aResL P σ h' rs (conR R h')
  | .panic c, σ, h => ∃ av u, c = pan u ∧ exactV av = some u ∧ ACallsD P Γ g as h (some u) fun h' => aResL P σ h' rs (conR R h')
  | _, _, _ => False
theorem leaves_defer {fn : Func} {t : Array Value} {G0 : Gh} {R : AV → AH → Prop} {rs : List ResultVar} {g : FuncId} {as : List AV} {vs vc : Array Value} {p : Option Value} (hrs : fn.results = rs.toArray) : ∀ (Ds : List Nat) (G : Gh) (w : World), G0.le G → Inv Γ G h w → TR N G σ t → (∀ D ∈ Ds, ¬ G0.ds D ∧ G.ds D ∧ ∀ b, G.lpD b ≠ some D) → Ds.Nodup →
    VRs G as (vs ++ vc) → ACallsD P Γ g as h p (fun h' => aResL P σ h' rs (conR R h')) → LeavesInM (Fr none) 0 P fn t (Res Γ G0 R) (Ds.map mark ++ [{ target := .fn (.func g) vc, args := vs }]) (modeOf p) w := by
  have hmr : modeOf p ≠ .run := by cases p <;> simp [modeOf]
  intro Ds
  induction Ds with
  | nil =>
    intro G w hle hI ht _ _ hv H
    obtain ⟨henter, hcall⟩ := H
    refine ⟨hmr, .inr ⟨fun e => by simp [Fr] at e, .func g, vc, g, vs ++ vc, rfl, by simp [invoke, henter], fun _ _ => trivial, ?_⟩⟩
    refine CallsDIn.mono (hcall G w _ hI hv) fun e u' w' hr => ?_
    obtain ⟨⟨v, rfl⟩, rfl, G', h', k1, k2, k3⟩ := hr
    show LeavesInM (Fr none) 0 P fn t (Res Γ G0 R) [] (settle (modeRec p)) w'
    rw [settle_rec]
    obtain ⟨u, av, q1, q2, q3⟩ := results_ok (P := P) k2 (ht.mono k1) hrs (K := fun v => R v h') k3
    exact ⟨u, q1, u, G', av, h', rfl, hle.trans k1, k2, q2, q3⟩
  | cons D Ds ih =>
    intro G w hle hI ht hD hnd hv H
    obtain ⟨d1, d2, d3⟩ := hD D (List.mem_cons_self ..)
    refine ⟨hmr, .inl ⟨D, _, rfl, run_takeDeferred (hI.dsI D d2).1, ?_⟩⟩
    have hle' := Gh.le_endD hle d1
    have hI' := hI.endD d2 d3
    rw [List.nodup_cons] at hnd
    refine ih _ _ hle' hI' ⟨ht.1, fun i => ?_⟩ (fun D' hD' => ?_) hnd.2 ⟨hv.1, fun j c e => ?_⟩ H
    · refine VR.same (G := G) ?_ ?_ ?_ (ht.2 i) <;> rfl
    · obtain ⟨e1, e2, e3⟩ := hD D' (List.mem_cons_of_mem _ hD')
      exact ⟨e1, ⟨e2, fun e => hnd.1 (e ▸ hD')⟩, e3⟩
    · refine VR.same (G := G) ?_ ?_ ?_ (hv.2 j c e) <;> rfl
theorem wpB_defer {fn : Func} {id : Nat} {ops : List Oper} {c : Code} {rs : List ResultVar} {R : AV → AH → Prop} (hrs : fn.results = rs.toArray) (hd : dstOK fn.ntmps ops.toArray = true) (hc : codeOK fn.ntmps c = true)
    (H : aOpsF P Γ (fun d σ h => ∃ g as, d = some (g, as) ∧ bCode P Γ f0 B fn.ntmps c (endF P Γ rs R g as) σ h) ops none σ h) {G0 G : Gh} {w : World} {a : Act} (hle : G0.le G) (hI : Inv Γ G h w) (ht : TR fn.ntmps G σ a.tmps) (hdf : a.defers = []) :
    wpB P f0 none (.seq (.region id ops.toArray false) c) (bodyPostM (Fr none) 0 P fn (Res Γ G0 R)) a w := by
  refine wpB_seq (wpB_of (wpIn_region ?_))
  refine aOpsF_ok (N := fn.ntmps) (G0 := G0) (K := fun d σ h => ∃ g as, d = some (g, as) ∧ bCode P Γ f0 B fn.ntmps c (endF P Γ rs R g as) σ h) (fun d G1 σ1 h1 a1 w1 q1 q2 q3 q4 q5 => ?_) (List.range ops.toArray.size) none _ h G w _ (fun i _ o ho x hx => by
    have := List.all_eq_true.1 hd o (by simpa using Array.mem_of_getElem? ho)
    rw [hx] at this
    exact Nat.le_of_ble_eq_true this) hle hI ht hdf (by rw [filterMap_range]; exact H)
  obtain ⟨g, as, rfl, q5⟩ := q5
  obtain ⟨vs1, vc1, q4, q6⟩ := q4
  refine wpB_mono (bCode_ok c _ σ1 h1 hc q5 none G1 w1 a1 (fun l e => by cases e) q2 q3) fun e a2 w2 hp => ?_
  rw [q4] at hp
  obtain ⟨G2, σ2, h2, Ds, f1, f2, f3, f4, f5, f6, f7⟩ := hp
  have hDs : ∀ D ∈ Ds, ¬ G0.ds D ∧ G2.ds D ∧ ∀ b, G2.lpD b ≠ some D := fun D hD => ⟨fun k => (f5 D hD).1 (q1.ds D k), (f5 D hD).2⟩
  have fin : ∀ p, ACallsD P Γ g as h2 p (fun h' => aResL P σ2 h' rs (conR R h')) → LeavesInM (Fr none) 0 P fn a2.tmps (Res Γ G0 R) a2.defers (modeOf p) w2 := fun p hp => by
    rw [f4]
    exact leaves_defer hrs Ds G2 w2 (q1.trans f1) f2 f3 hDs f6 (q6.mono f1) hp
  cases e with
  | ret => exact fin none f7
  | normal => exact fin none f7
  | panic ch => obtain ⟨av, u, rfl, k1, k2⟩ := f7; exact fin (some u) k2
  | _ => exact f7.elim
/-- **The contract of a function that defers a call which recovers**, its second region deferring. -/
theorem acalls_defer2 {fn : Func} {id0 id : Nat} {ops0 ops : List Oper} {c : Code} {args : List AV} {rs : List ResultVar} {R : AV → AH → Prop} (B : Nat) (f0 : FuncId) (hf : P.funcs[f0]? = some fn) (hb : fn.body = some (.seq (.region id0 ops0.toArray false) (.seq (.region id ops.toArray false) c))) (hn : (fn.name == "runtime.NumGoroutine") = false)
    (hN : Nat.ble args.length fn.ntmps = true) (hrs : fn.results = rs.toArray) (hd0 : dstOK fn.ntmps ops0.toArray = true) (hd : dstOK fn.ntmps ops.toArray = true) (hc : codeOK fn.ntmps c = true)
    (H : aOpsF P Γ (fun d σ h => d = none ∧ aOpsF P Γ (fun d σ h => ∃ g as, d = some (g, as) ∧ bCode P Γ f0 B fn.ntmps c (endF P Γ rs R g as) σ h) ops none σ h) ops0 none (argsT 0 args) h) : ACalls P Γ f0 args h R := by
  refine ⟨fun vs w => enters_ok hf hb hn vs w, fun G w vs hI hv => ?_⟩
  refine (callsIn_Fr (r := none) (n := 0)).1 (callsIn_of_wpB hf hb (wpB_seq (wpB_of (wpIn_region ?_))))
  refine aOpsF_ok (N := fn.ntmps) (G0 := G) (K := fun d σ h => d = none ∧ aOpsF P Γ (fun d σ h => ∃ g as, d = some (g, as) ∧ bCode P Γ f0 B fn.ntmps c (endF P Γ rs R g as) σ h) ops none σ h) (fun d G1 σ1 h1 a1 w1 q1 q2 q3 q4 q5 => ?_) (List.range ops0.toArray.size) none _ h G w _ (fun i _ o ho x hx => by
    have := List.all_eq_true.1 hd0 o (by simpa using Array.mem_of_getElem? ho)
    rw [hx] at this
    exact Nat.le_of_ble_eq_true this) (Gh.le.refl G) hI (args_TR hv (Nat.le_of_ble_eq_true hN)) rfl (by rw [filterMap_range]; exact H)
  obtain ⟨rfl, q5⟩ := q5
  exact wpB_defer hrs hd hc q5 q1 q2 q3 q4

/-! ### Rules -/
@[go_sem] theorem endX_ret' {rs : List ResultVar} {h0 : AH} {R : AV → AH → Prop} {X : Value → Prop} : endX P rs B h0 R X .ret σ h = aResL P σ h rs (conR R h) := (rfl)
@[go_sem] theorem endX_normal' {rs : List ResultVar} {h0 : AH} {R : AV → AH → Prop} {X : Value → Prop} : endX P rs B h0 R X .normal σ h = aResL P σ h rs (conR R h) := (rfl)
@[go_sem] theorem endX_panic' {rs : List ResultVar} {h0 : AH} {R : AV → AH → Prop} {X : Value → Prop} (c : List PanicEntry) : endX P rs B h0 R X (.panic c) σ h = PanOK B h0 X c h := (rfl)
@[go_sem] theorem endF_ret {rs : List ResultVar} {R : AV → AH → Prop} {g : FuncId} {l : List AV} : endF P Γ rs R g l .ret σ h = ACallsD P Γ g l h none (fun h' => aResL P σ h' rs (conR R h')) := (rfl)
@[go_sem] theorem endF_normal {rs : List ResultVar} {R : AV → AH → Prop} {g : FuncId} {l : List AV} : endF P Γ rs R g l .normal σ h = ACallsD P Γ g l h none (fun h' => aResL P σ h' rs (conR R h')) := (rfl)
theorem endF_panic {rs : List ResultVar} {R : AV → AH → Prop} {g : FuncId} {l : List AV} (av : AV) {u : Value} (hu : exactV av = some u) (H : ACallsD P Γ g l h (some u) (fun h' => aResL P σ h' rs (conR R h'))) : endF P Γ rs R g l (.panic (pan u)) σ h := ⟨av, u, rfl, hu, H⟩
attribute [go_sem] roundL_panic roundZ_panic thenA_panic blockA_panic roundPostX_normal roundPostX_ret roundPostX_exit roundPostX_panic
def bThen (P : Program) (Γ : Nat → Option (List AV)) (f0 : FuncId) (B N : Nat) (b : Bool) (y : Code) (Q : Exit → Tm → AH → Prop) (σ : Tm) (h : AH) : Prop := bif b then BWP P Γ f0 N y Q σ h else bCode P Γ f0 B N y Q σ h
@[go_sem] theorem bThen_true (y : Code) : bThen P Γ f0 B N true y Q σ h = BWP P Γ f0 N y Q σ h := (rfl)
@[go_sem] theorem bThen_false (y : Code) : bThen P Γ f0 B N false y Q σ h = bCode P Γ f0 B N y Q σ h := (rfl)
@[go_sem] theorem bCode_skip : bCode P Γ f0 B N .skip Q σ h = Q .normal σ h := (rfl)
@[go_sem] theorem bCode_label (l : Nat) : bCode P Γ f0 B N (.label l) Q σ h = Q .normal σ h := (rfl)
@[go_sem] theorem bCode_exit (l : Nat) : bCode P Γ f0 B N (.exit l) Q σ h = Q (.exit l) σ h := (rfl)
@[go_sem] theorem bCode_goto (l : Nat) : bCode P Γ f0 B N (.goto l) Q σ h = Q (.goto l) σ h := (rfl)
@[go_sem] theorem bCode_ret : bCode P Γ f0 B N .ret Q σ h = Q .ret σ h := (rfl)
@[go_sem] theorem bCode_region (id : Nat) (l : List Oper) : bCode P Γ f0 B N (.region id l.toArray false) Q σ h = aOpsX P Γ B l Q l σ h := (rfl)
@[go_sem] theorem bCode_draw (id : Nat) (ops : Array Oper) : bCode P Γ f0 B N (.region id ops true) Q σ h = BWP P Γ f0 N (.region id ops true) Q σ h := (rfl)
@[go_sem] theorem bCode_seq (x y : Code) : bCode P Γ f0 B N (.seq x y) Q σ h = bCode P Γ f0 B N x (thenA (bThen P Γ f0 B N (stops x) y Q) Q) σ h := (rfl)
@[go_sem] theorem bCode_cond (c : Operand) (x y : Code) : bCode P Γ f0 B N (.cond c x y) Q σ h = aBr (ev Γ σ c) true (bCode P Γ f0 B N x Q) σ (bCode P Γ f0 B N y Q) σ h := (rfl)
@[go_sem] theorem bCode_block (id : Nat) (c : Code) : bCode P Γ f0 B N (.block id c) Q σ h = bCode P Γ f0 B N c (blockA id Q) σ h := (rfl)
@[go_sem] theorem bCode_loop (c : Code) : bCode P Γ f0 B N (.loop c) Q σ h = BWP P Γ f0 N (.loop c) Q σ h := (rfl)
@[go_sem] theorem bCode_rangeFunc (f : Operand) (ps : Array Tmp) (a b : Code) : bCode P Γ f0 B N (.rangeFunc f ps a b) Q σ h = BWP P Γ f0 N (.rangeFunc f ps a b) Q σ h := (rfl)
@[go_sem] theorem bCode_scope (c : Code) : bCode P Γ f0 B N (.scope c) Q σ h = BWP P Γ f0 N (.scope c) Q σ h := (rfl)
/-- A region that draws its order and holds no call that may panic. -/
theorem BWP.drawn {id : Nat} {ops : Array Oper} (hm : P.follows .mixedOrders = true) (hc : codeOK N (.region id ops true) = true) (H : aCode P Γ N (.region id ops true) Q σ h) : BWP P Γ f0 N (.region id ops true) Q σ h := .of (aCode_ok hm _ _ _ _ hc H)
def xOp1 (P : Program) (Γ : Nat → Option (List AV)) (B : Nat) (op : Op) (K : AV → Tm → AH → Prop) (Q : Exit → Tm → AH → Prop) (σ : Tm) (h : AH) : Prop :=
  aOp1X P Γ B { dst := none, op := op, type := 0, pos := "", after := #[], guard := none } K Q σ h
def xPut (P : Program) (Γ : Nat → Option (List AV)) (B : Nat) (ops : List Oper) (Q : Exit → Tm → AH → Prop) (rest : List Oper) (d : Option Tmp) (v : AV) (σ : Tm) (h : AH) : Prop := aOpsX P Γ B ops Q rest (put d v σ) h
def xPass (P : Program) (Γ : Nat → Option (List AV)) (B : Nat) (ops : List Oper) (Q : Exit → Tm → AH → Prop) (rest : List Oper) (d : Option Tmp) (σ : Tm) (h : AH) : Prop := aOpsX P Γ B ops Q rest (put d (.tuple []) σ) h
def xOp (P : Program) (Γ : Nat → Option (List AV)) (B : Nat) (op : Op) (K : AV → Tm → AH → Prop) (Q : Exit → Tm → AH → Prop) : KB := fun σ h => xOp1 P Γ B op K Q σ h
@[go_sem] theorem xPut_eq (ops : List Oper) (rest : List Oper) (d : Option Tmp) (v : AV) : xPut P Γ B ops Q rest d v σ h = aOpsX P Γ B ops Q rest (put d v σ) h := (rfl)
@[go_sem] theorem xPass_eq (ops : List Oper) (rest : List Oper) (d : Option Tmp) : xPass P Γ B ops Q rest d σ h = aOpsX P Γ B ops Q rest (put d (.tuple []) σ) h := (rfl)
@[go_sem] theorem xOp_eq (op : Op) (K : AV → Tm → AH → Prop) : xOp P Γ B op K Q σ h = xOp1 P Γ B op K Q σ h := (rfl)
@[go_sem] theorem aOpsX_nil (ops : List Oper) : aOpsX P Γ B ops Q [] σ h = Q .normal σ h := (rfl)
@[go_sem] theorem aOpsX_plain (ops : List Oper) (d : Option Tmp) (op : Op) (ty : TypeId) (pos : String) (after : Array Edge) (rest : List Oper) :
    aOpsX P Γ B ops Q ({ dst := d, op := op, type := ty, pos := pos, after := after, guard := none } :: rest) σ h = xOp1 P Γ B op (xPut P Γ B ops Q rest d) Q σ h := (rfl)
@[go_sem] theorem aOpsX_guard (ops : List Oper) (d : Option Tmp) (op : Op) (ty : TypeId) (pos : String) (after : Array Edge) (j : Nat) (want : Bool) (rest : List Oper) :
    aOpsX P Γ B ops Q ({ dst := d, op := op, type := ty, pos := pos, after := after, guard := some (j, want) } :: rest) σ h = aGd (dstAt ops j) want (xOp P Γ B op (xPut P Γ B ops Q rest d) Q) (xPass P Γ B ops Q rest d) σ h := (rfl)
@[go_sem] theorem xOp1_call (f : Operand) (l : List Operand) (ts : Array TypeId) (K : KT) : xOp1 P Γ B (.call { callee := .value f, args := l.toArray, argTypes := ts }) K Q σ h = aCallVX P Γ B (ev Γ σ f) (l.map (ev Γ σ)) h (aNext K σ) (aRaise Q B σ h) := (rfl)
@[go_sem] theorem xOp1_builtin (b : Builtin) (l : Array Operand) (ts : Array TypeId) (K : KT) : xOp1 P Γ B (.call { callee := .builtin b, args := l, argTypes := ts }) K Q σ h = aOp1 P Γ (.call { callee := .builtin b, args := l, argTypes := ts }) K σ h := (rfl)
@[go_sem] theorem xOp1_panic (x : Operand) (K : KT) : xOp1 P Γ B (.panic x) K Q σ h = aPan (ev Γ σ x) (aPanQ Q σ h) := (rfl)
@[go_sem] theorem aCallVX_func (g : FuncId) (first cap l : List AV) (R : AV → AH → Prop) (X : Value → Prop) : aCallVX P Γ B (.func g first cap) l h R X = ACallsX P Γ B g (first ++ l ++ cap) h R X := (rfl)
@[go_sem] theorem aCallVX_yield (i : Nat) (l : List AV) (R : AV → AH → Prop) (X : Value → Prop) : aCallVX P Γ B (.yield i) l h R X = AYieldX P Γ B i l h R X := (rfl)
@[go_sem] theorem aRaise_eq (u : Value) : aRaise Q B σ h u = Q (.panic (pan u)) σ (deadH B h) := (rfl)
@[go_sem] theorem aPanQ_eq (u : Value) : aPanQ Q σ h u = Q (.panic (pan u)) σ h := (rfl)
def aPanO (o : Option Value) (K : Value → Prop) : Prop := match o with
  | some u => K u
  | none => False
@[go_sem] theorem aPan_iface (t : TypeId) (v : AV) (K : Value → Prop) : aPan (.iface t v) K = aPanO (exactV (.iface t v)) K := (rfl)
@[go_sem] theorem aPanO_some (u : Value) (K : Value → Prop) : aPanO (some u) K = K u := (rfl)
@[go_sem] theorem exactV_int (k : IntKind) (n : Int) : exactV (.int k n) = some (.int k n) := (rfl)
@[go_sem] theorem exactV_bool (b : Bool) : exactV (.bool b) = some (.bool b) := (rfl)
@[go_sem] theorem exactV_iface (t : TypeId) (v : AV) : exactV (.iface t v) = (exactV v).map (.iface t ·) := by rw [exactV]
@[go_sem] theorem exactV_agg (l : List AV) : exactV (.agg l) = (exactL l).map fun l => .agg l.toArray := by rw [exactV]
@[go_sem] theorem exactL_nil : exactL [] = some [] := by rw [exactL]
def consO : Option Value → Option (List Value) → Option (List Value)
  | some v, some r => some (v :: r)
  | _, _ => none
@[go_sem] theorem exactL_cons (a : AV) (l : List AV) : exactL (a :: l) = consO (exactV a) (exactL l) := by rw [exactL]; cases exactV a <;> cases exactL l <;> rfl
@[go_sem] theorem consO_some (v : Value) (r : List Value) : consO (some v) (some r) = some (v :: r) := (rfl)
/-- A call known to panic. -/
theorem ACallsX.pan {g : FuncId} {l : List AV} {R : AV → AH → Prop} {X : Value → Prop} {u : Value} (H : ACallsX P Γ B g l h (fun _ _ => False) fun u' => u' = u) (hX : X u) : ACallsX P Γ B g l h R X := H.mono (fun _ _ h => h.elim) fun u' e => by rw [e]; exact hX
def fPut (P : Program) (Γ : Nat → Option (List AV)) (K : Option (FuncId × List AV) → Tm → AH → Prop) (rest : List Oper) (d : Option (FuncId × List AV)) (t : Option Tmp) (v : AV) (σ : Tm) (h : AH) : Prop := aOpsF P Γ K rest d (put t v σ) h
@[go_sem] theorem fPut_eq (K : Option (FuncId × List AV) → Tm → AH → Prop) (rest : List Oper) (d : Option (FuncId × List AV)) (t : Option Tmp) (v : AV) : fPut P Γ K rest d t v σ h = aOpsF P Γ K rest d (put t v σ) h := (rfl)
@[go_sem] theorem ex_some (p : FuncId → List AV → Prop) (g : FuncId) (l : List AV) : (∃ g' l', (some (g, l) : Option (FuncId × List AV)) = some (g', l') ∧ p g' l') = p g l := propext ⟨fun ⟨_, _, e, H⟩ => by cases e; exact H, fun H => ⟨g, l, rfl, H⟩⟩
@[go_sem] theorem aOpsF_nil (K : Option (FuncId × List AV) → Tm → AH → Prop) (d : Option (FuncId × List AV)) : aOpsF P Γ K [] d σ h = K d σ h := (rfl)
def fDef (P : Program) (Γ : Nat → Option (List AV)) (K : Option (FuncId × List AV) → Tm → AH → Prop) (rest : List Oper) (t : Option Tmp) (f : AV) (l : List AV) (σ : Tm) (h : AH) : Prop := match f with
  | .func g first cap => aOpsF P Γ K rest (some (g, first ++ l ++ cap)) (put t (.tuple []) σ) h
  | _ => False
@[go_sem] theorem fDef_func (K : Option (FuncId × List AV) → Tm → AH → Prop) (rest : List Oper) (t : Option Tmp) (g : FuncId) (first cap l : List AV) : fDef P Γ K rest t (.func g first cap) l σ h = aOpsF P Γ K rest (some (g, first ++ l ++ cap)) (put t (.tuple []) σ) h := (rfl)
@[go_sem] theorem aOpsF_defer (K : Option (FuncId × List AV) → Tm → AH → Prop) (t : Option Tmp) (f : Operand) (l : List Operand) (ts : Array TypeId) (ty : TypeId) (pos : String) (after : Array Edge) (rest : List Oper) :
    aOpsF P Γ K ({ dst := t, op := .defer { callee := .value f, args := l.toArray, argTypes := ts }, type := ty, pos := pos, after := after, guard := none } :: rest) none σ h = fDef P Γ K rest t (ev Γ σ f) (l.map (ev Γ σ)) σ h := (rfl)
def rPut (P : Program) (Γ : Nat → Option (List AV)) (K : Tm → AH → Prop) (rest : List Oper) (t : Option Tmp) (v : AV) (σ : Tm) (h : AH) : Prop := aOpsR P Γ K rest (put t v σ) h
@[go_sem] theorem rPut_eq (K : Tm → AH → Prop) (rest : List Oper) (t : Option Tmp) (v : AV) : rPut P Γ K rest t v σ h = aOpsR P Γ K rest (put t v σ) h := (rfl)
@[go_sem] theorem aOpsR_nil (K : Tm → AH → Prop) : aOpsR P Γ K [] σ h = K σ h := (rfl)

@[go_sem] theorem xOp1_move (x : Operand) (K : KT) : xOp1 P Γ B (.move x) K Q σ h = aOp1 P Γ (.move x) K σ h := (rfl)
@[go_sem] theorem aOpsF_move (x : Operand) (K : Option (FuncId × List AV) → Tm → AH → Prop) (d : Option (FuncId × List AV)) (t : Option Tmp) (ty : TypeId) (pos : String) (after : Array Edge) (rest : List Oper) : aOpsF P Γ K ({ dst := t, op := .move x, type := ty, pos := pos, after := after, guard := none } :: rest) d σ h = aOp1 P Γ (.move x) (fPut P Γ K rest d t) σ h := (rfl)
@[go_sem] theorem aOpsR_move (x : Operand) (K : Tm → AH → Prop) (t : Option Tmp) (ty : TypeId) (pos : String) (after : Array Edge) (rest : List Oper) : aOpsR P Γ K ({ dst := t, op := .move x, type := ty, pos := pos, after := after, guard := none } :: rest) σ h = aOp1 P Γ (.move x) (rPut P Γ K rest t) σ h := (rfl)
@[go_sem] theorem xOp1_assign (x : Operand) (K : KT) : xOp1 P Γ B (.assign x) K Q σ h = aOp1 P Γ (.assign x) K σ h := (rfl)
@[go_sem] theorem aOpsF_assign (x : Operand) (K : Option (FuncId × List AV) → Tm → AH → Prop) (d : Option (FuncId × List AV)) (t : Option Tmp) (ty : TypeId) (pos : String) (after : Array Edge) (rest : List Oper) : aOpsF P Γ K ({ dst := t, op := .assign x, type := ty, pos := pos, after := after, guard := none } :: rest) d σ h = aOp1 P Γ (.assign x) (fPut P Γ K rest d t) σ h := (rfl)
@[go_sem] theorem aOpsR_assign (x : Operand) (K : Tm → AH → Prop) (t : Option Tmp) (ty : TypeId) (pos : String) (after : Array Edge) (rest : List Oper) : aOpsR P Γ K ({ dst := t, op := .assign x, type := ty, pos := pos, after := after, guard := none } :: rest) σ h = aOp1 P Γ (.assign x) (rPut P Γ K rest t) σ h := (rfl)
@[go_sem] theorem xOp1_pick (x y z : Operand) (K : KT) : xOp1 P Γ B (.pick x y z) K Q σ h = aOp1 P Γ (.pick x y z) K σ h := (rfl)
@[go_sem] theorem aOpsF_pick (x y z : Operand) (K : Option (FuncId × List AV) → Tm → AH → Prop) (d : Option (FuncId × List AV)) (t : Option Tmp) (ty : TypeId) (pos : String) (after : Array Edge) (rest : List Oper) : aOpsF P Γ K ({ dst := t, op := .pick x y z, type := ty, pos := pos, after := after, guard := none } :: rest) d σ h = aOp1 P Γ (.pick x y z) (fPut P Γ K rest d t) σ h := (rfl)
@[go_sem] theorem aOpsR_pick (x y z : Operand) (K : Tm → AH → Prop) (t : Option Tmp) (ty : TypeId) (pos : String) (after : Array Edge) (rest : List Oper) : aOpsR P Γ K ({ dst := t, op := .pick x y z, type := ty, pos := pos, after := after, guard := none } :: rest) σ h = aOp1 P Γ (.pick x y z) (rPut P Γ K rest t) σ h := (rfl)
@[go_sem] theorem xOp1_alloc (x : TypeId) (K : KT) : xOp1 P Γ B (.alloc x) K Q σ h = aOp1 P Γ (.alloc x) K σ h := (rfl)
@[go_sem] theorem aOpsF_alloc (x : TypeId) (K : Option (FuncId × List AV) → Tm → AH → Prop) (d : Option (FuncId × List AV)) (t : Option Tmp) (ty : TypeId) (pos : String) (after : Array Edge) (rest : List Oper) : aOpsF P Γ K ({ dst := t, op := .alloc x, type := ty, pos := pos, after := after, guard := none } :: rest) d σ h = aOp1 P Γ (.alloc x) (fPut P Γ K rest d t) σ h := (rfl)
@[go_sem] theorem aOpsR_alloc (x : TypeId) (K : Tm → AH → Prop) (t : Option Tmp) (ty : TypeId) (pos : String) (after : Array Edge) (rest : List Oper) : aOpsR P Γ K ({ dst := t, op := .alloc x, type := ty, pos := pos, after := after, guard := none } :: rest) σ h = aOp1 P Γ (.alloc x) (rPut P Γ K rest t) σ h := (rfl)
@[go_sem] theorem xOp1_box (x : TypeId) (y : Operand) (K : KT) : xOp1 P Γ B (.box x y) K Q σ h = aOp1 P Γ (.box x y) K σ h := (rfl)
@[go_sem] theorem aOpsF_box (x : TypeId) (y : Operand) (K : Option (FuncId × List AV) → Tm → AH → Prop) (d : Option (FuncId × List AV)) (t : Option Tmp) (ty : TypeId) (pos : String) (after : Array Edge) (rest : List Oper) : aOpsF P Γ K ({ dst := t, op := .box x y, type := ty, pos := pos, after := after, guard := none } :: rest) d σ h = aOp1 P Γ (.box x y) (fPut P Γ K rest d t) σ h := (rfl)
@[go_sem] theorem aOpsR_box (x : TypeId) (y : Operand) (K : Tm → AH → Prop) (t : Option Tmp) (ty : TypeId) (pos : String) (after : Array Edge) (rest : List Oper) : aOpsR P Γ K ({ dst := t, op := .box x y, type := ty, pos := pos, after := after, guard := none } :: rest) σ h = aOp1 P Γ (.box x y) (rPut P Γ K rest t) σ h := (rfl)
@[go_sem] theorem xOp1_build (x : TypeId) (y : Array (Nat × Operand)) (K : KT) : xOp1 P Γ B (.build x y) K Q σ h = aOp1 P Γ (.build x y) K σ h := (rfl)
@[go_sem] theorem aOpsF_build (x : TypeId) (y : Array (Nat × Operand)) (K : Option (FuncId × List AV) → Tm → AH → Prop) (d : Option (FuncId × List AV)) (t : Option Tmp) (ty : TypeId) (pos : String) (after : Array Edge) (rest : List Oper) : aOpsF P Γ K ({ dst := t, op := .build x y, type := ty, pos := pos, after := after, guard := none } :: rest) d σ h = aOp1 P Γ (.build x y) (fPut P Γ K rest d t) σ h := (rfl)
@[go_sem] theorem aOpsR_build (x : TypeId) (y : Array (Nat × Operand)) (K : Tm → AH → Prop) (t : Option Tmp) (ty : TypeId) (pos : String) (after : Array Edge) (rest : List Oper) : aOpsR P Γ K ({ dst := t, op := .build x y, type := ty, pos := pos, after := after, guard := none } :: rest) σ h = aOp1 P Γ (.build x y) (rPut P Γ K rest t) σ h := (rfl)
@[go_sem] theorem xOp1_buildSlice (x : TypeId) (y : Nat) (z : Array (Nat × Operand)) (K : KT) : xOp1 P Γ B (.buildSlice x y z) K Q σ h = aOp1 P Γ (.buildSlice x y z) K σ h := (rfl)
@[go_sem] theorem aOpsF_buildSlice (x : TypeId) (y : Nat) (z : Array (Nat × Operand)) (K : Option (FuncId × List AV) → Tm → AH → Prop) (d : Option (FuncId × List AV)) (t : Option Tmp) (ty : TypeId) (pos : String) (after : Array Edge) (rest : List Oper) : aOpsF P Γ K ({ dst := t, op := .buildSlice x y z, type := ty, pos := pos, after := after, guard := none } :: rest) d σ h = aOp1 P Γ (.buildSlice x y z) (fPut P Γ K rest d t) σ h := (rfl)
@[go_sem] theorem aOpsR_buildSlice (x : TypeId) (y : Nat) (z : Array (Nat × Operand)) (K : Tm → AH → Prop) (t : Option Tmp) (ty : TypeId) (pos : String) (after : Array Edge) (rest : List Oper) : aOpsR P Γ K ({ dst := t, op := .buildSlice x y z, type := ty, pos := pos, after := after, guard := none } :: rest) σ h = aOp1 P Γ (.buildSlice x y z) (rPut P Γ K rest t) σ h := (rfl)
@[go_sem] theorem xOp1_load (x : TypeId) (y : Operand) (K : KT) : xOp1 P Γ B (.load x y) K Q σ h = aOp1 P Γ (.load x y) K σ h := (rfl)
@[go_sem] theorem aOpsF_load (x : TypeId) (y : Operand) (K : Option (FuncId × List AV) → Tm → AH → Prop) (d : Option (FuncId × List AV)) (t : Option Tmp) (ty : TypeId) (pos : String) (after : Array Edge) (rest : List Oper) : aOpsF P Γ K ({ dst := t, op := .load x y, type := ty, pos := pos, after := after, guard := none } :: rest) d σ h = aOp1 P Γ (.load x y) (fPut P Γ K rest d t) σ h := (rfl)
@[go_sem] theorem aOpsR_load (x : TypeId) (y : Operand) (K : Tm → AH → Prop) (t : Option Tmp) (ty : TypeId) (pos : String) (after : Array Edge) (rest : List Oper) : aOpsR P Γ K ({ dst := t, op := .load x y, type := ty, pos := pos, after := after, guard := none } :: rest) σ h = aOp1 P Γ (.load x y) (rPut P Γ K rest t) σ h := (rfl)
@[go_sem] theorem xOp1_store (x : TypeId) (y z : Operand) (K : KT) : xOp1 P Γ B (.store x y z) K Q σ h = aOp1 P Γ (.store x y z) K σ h := (rfl)
@[go_sem] theorem aOpsF_store (x : TypeId) (y z : Operand) (K : Option (FuncId × List AV) → Tm → AH → Prop) (d : Option (FuncId × List AV)) (t : Option Tmp) (ty : TypeId) (pos : String) (after : Array Edge) (rest : List Oper) : aOpsF P Γ K ({ dst := t, op := .store x y z, type := ty, pos := pos, after := after, guard := none } :: rest) d σ h = aOp1 P Γ (.store x y z) (fPut P Γ K rest d t) σ h := (rfl)
@[go_sem] theorem aOpsR_store (x : TypeId) (y z : Operand) (K : Tm → AH → Prop) (t : Option Tmp) (ty : TypeId) (pos : String) (after : Array Edge) (rest : List Oper) : aOpsR P Γ K ({ dst := t, op := .store x y z, type := ty, pos := pos, after := after, guard := none } :: rest) σ h = aOp1 P Γ (.store x y z) (rPut P Γ K rest t) σ h := (rfl)
@[go_sem] theorem xOp1_nilCheck (x : Operand) (K : KT) : xOp1 P Γ B (.nilCheck x) K Q σ h = aOp1 P Γ (.nilCheck x) K σ h := (rfl)
@[go_sem] theorem aOpsF_nilCheck (x : Operand) (K : Option (FuncId × List AV) → Tm → AH → Prop) (d : Option (FuncId × List AV)) (t : Option Tmp) (ty : TypeId) (pos : String) (after : Array Edge) (rest : List Oper) : aOpsF P Γ K ({ dst := t, op := .nilCheck x, type := ty, pos := pos, after := after, guard := none } :: rest) d σ h = aOp1 P Γ (.nilCheck x) (fPut P Γ K rest d t) σ h := (rfl)
@[go_sem] theorem aOpsR_nilCheck (x : Operand) (K : Tm → AH → Prop) (t : Option Tmp) (ty : TypeId) (pos : String) (after : Array Edge) (rest : List Oper) : aOpsR P Γ K ({ dst := t, op := .nilCheck x, type := ty, pos := pos, after := after, guard := none } :: rest) σ h = aOp1 P Γ (.nilCheck x) (rPut P Γ K rest t) σ h := (rfl)
@[go_sem] theorem xOp1_binOp (x : BinOp) (y : TypeId) (z u : Operand) (v : TypeId) (K : KT) : xOp1 P Γ B (.binOp x y z u v) K Q σ h = aOp1 P Γ (.binOp x y z u v) K σ h := (rfl)
@[go_sem] theorem aOpsF_binOp (x : BinOp) (y : TypeId) (z u : Operand) (v : TypeId) (K : Option (FuncId × List AV) → Tm → AH → Prop) (d : Option (FuncId × List AV)) (t : Option Tmp) (ty : TypeId) (pos : String) (after : Array Edge) (rest : List Oper) : aOpsF P Γ K ({ dst := t, op := .binOp x y z u v, type := ty, pos := pos, after := after, guard := none } :: rest) d σ h = aOp1 P Γ (.binOp x y z u v) (fPut P Γ K rest d t) σ h := (rfl)
@[go_sem] theorem aOpsR_binOp (x : BinOp) (y : TypeId) (z u : Operand) (v : TypeId) (K : Tm → AH → Prop) (t : Option Tmp) (ty : TypeId) (pos : String) (after : Array Edge) (rest : List Oper) : aOpsR P Γ K ({ dst := t, op := .binOp x y z u v, type := ty, pos := pos, after := after, guard := none } :: rest) σ h = aOp1 P Γ (.binOp x y z u v) (rPut P Γ K rest t) σ h := (rfl)
@[go_sem] theorem xOp1_unOp (x : UnOp) (y : TypeId) (z : Operand) (K : KT) : xOp1 P Γ B (.unOp x y z) K Q σ h = aOp1 P Γ (.unOp x y z) K σ h := (rfl)
@[go_sem] theorem aOpsF_unOp (x : UnOp) (y : TypeId) (z : Operand) (K : Option (FuncId × List AV) → Tm → AH → Prop) (d : Option (FuncId × List AV)) (t : Option Tmp) (ty : TypeId) (pos : String) (after : Array Edge) (rest : List Oper) : aOpsF P Γ K ({ dst := t, op := .unOp x y z, type := ty, pos := pos, after := after, guard := none } :: rest) d σ h = aOp1 P Γ (.unOp x y z) (fPut P Γ K rest d t) σ h := (rfl)
@[go_sem] theorem aOpsR_unOp (x : UnOp) (y : TypeId) (z : Operand) (K : Tm → AH → Prop) (t : Option Tmp) (ty : TypeId) (pos : String) (after : Array Edge) (rest : List Oper) : aOpsR P Γ K ({ dst := t, op := .unOp x y z, type := ty, pos := pos, after := after, guard := none } :: rest) σ h = aOp1 P Γ (.unOp x y z) (rPut P Γ K rest t) σ h := (rfl)
@[go_sem] theorem xOp1_convert (x y : TypeId) (z : Operand) (K : KT) : xOp1 P Γ B (.convert x y z) K Q σ h = aOp1 P Γ (.convert x y z) K σ h := (rfl)
@[go_sem] theorem aOpsF_convert (x y : TypeId) (z : Operand) (K : Option (FuncId × List AV) → Tm → AH → Prop) (d : Option (FuncId × List AV)) (t : Option Tmp) (ty : TypeId) (pos : String) (after : Array Edge) (rest : List Oper) : aOpsF P Γ K ({ dst := t, op := .convert x y z, type := ty, pos := pos, after := after, guard := none } :: rest) d σ h = aOp1 P Γ (.convert x y z) (fPut P Γ K rest d t) σ h := (rfl)
@[go_sem] theorem aOpsR_convert (x y : TypeId) (z : Operand) (K : Tm → AH → Prop) (t : Option Tmp) (ty : TypeId) (pos : String) (after : Array Edge) (rest : List Oper) : aOpsR P Γ K ({ dst := t, op := .convert x y z, type := ty, pos := pos, after := after, guard := none } :: rest) σ h = aOp1 P Γ (.convert x y z) (rPut P Γ K rest t) σ h := (rfl)
@[go_sem] theorem xOp1_sliceToArrayPointer (x : TypeId) (y : Operand) (K : KT) : xOp1 P Γ B (.sliceToArrayPointer x y) K Q σ h = aOp1 P Γ (.sliceToArrayPointer x y) K σ h := (rfl)
@[go_sem] theorem aOpsF_sliceToArrayPointer (x : TypeId) (y : Operand) (K : Option (FuncId × List AV) → Tm → AH → Prop) (d : Option (FuncId × List AV)) (t : Option Tmp) (ty : TypeId) (pos : String) (after : Array Edge) (rest : List Oper) : aOpsF P Γ K ({ dst := t, op := .sliceToArrayPointer x y, type := ty, pos := pos, after := after, guard := none } :: rest) d σ h = aOp1 P Γ (.sliceToArrayPointer x y) (fPut P Γ K rest d t) σ h := (rfl)
@[go_sem] theorem aOpsR_sliceToArrayPointer (x : TypeId) (y : Operand) (K : Tm → AH → Prop) (t : Option Tmp) (ty : TypeId) (pos : String) (after : Array Edge) (rest : List Oper) : aOpsR P Γ K ({ dst := t, op := .sliceToArrayPointer x y, type := ty, pos := pos, after := after, guard := none } :: rest) σ h = aOp1 P Γ (.sliceToArrayPointer x y) (rPut P Γ K rest t) σ h := (rfl)
@[go_sem] theorem xOp1_makeInterface (x : TypeId) (y : Operand) (K : KT) : xOp1 P Γ B (.makeInterface x y) K Q σ h = aOp1 P Γ (.makeInterface x y) K σ h := (rfl)
@[go_sem] theorem aOpsF_makeInterface (x : TypeId) (y : Operand) (K : Option (FuncId × List AV) → Tm → AH → Prop) (d : Option (FuncId × List AV)) (t : Option Tmp) (ty : TypeId) (pos : String) (after : Array Edge) (rest : List Oper) : aOpsF P Γ K ({ dst := t, op := .makeInterface x y, type := ty, pos := pos, after := after, guard := none } :: rest) d σ h = aOp1 P Γ (.makeInterface x y) (fPut P Γ K rest d t) σ h := (rfl)
@[go_sem] theorem aOpsR_makeInterface (x : TypeId) (y : Operand) (K : Tm → AH → Prop) (t : Option Tmp) (ty : TypeId) (pos : String) (after : Array Edge) (rest : List Oper) : aOpsR P Γ K ({ dst := t, op := .makeInterface x y, type := ty, pos := pos, after := after, guard := none } :: rest) σ h = aOp1 P Γ (.makeInterface x y) (rPut P Γ K rest t) σ h := (rfl)
@[go_sem] theorem xOp1_makeFunc (x : Fn) (y z : Array Operand) (K : KT) : xOp1 P Γ B (.makeFunc x y z) K Q σ h = aOp1 P Γ (.makeFunc x y z) K σ h := (rfl)
@[go_sem] theorem aOpsF_makeFunc (x : Fn) (y z : Array Operand) (K : Option (FuncId × List AV) → Tm → AH → Prop) (d : Option (FuncId × List AV)) (t : Option Tmp) (ty : TypeId) (pos : String) (after : Array Edge) (rest : List Oper) : aOpsF P Γ K ({ dst := t, op := .makeFunc x y z, type := ty, pos := pos, after := after, guard := none } :: rest) d σ h = aOp1 P Γ (.makeFunc x y z) (fPut P Γ K rest d t) σ h := (rfl)
@[go_sem] theorem aOpsR_makeFunc (x : Fn) (y z : Array Operand) (K : Tm → AH → Prop) (t : Option Tmp) (ty : TypeId) (pos : String) (after : Array Edge) (rest : List Oper) : aOpsR P Γ K ({ dst := t, op := .makeFunc x y z, type := ty, pos := pos, after := after, guard := none } :: rest) σ h = aOp1 P Γ (.makeFunc x y z) (rPut P Γ K rest t) σ h := (rfl)
@[go_sem] theorem xOp1_makeMap (x : TypeId) (y : Option Operand) (K : KT) : xOp1 P Γ B (.makeMap x y) K Q σ h = aOp1 P Γ (.makeMap x y) K σ h := (rfl)
@[go_sem] theorem aOpsF_makeMap (x : TypeId) (y : Option Operand) (K : Option (FuncId × List AV) → Tm → AH → Prop) (d : Option (FuncId × List AV)) (t : Option Tmp) (ty : TypeId) (pos : String) (after : Array Edge) (rest : List Oper) : aOpsF P Γ K ({ dst := t, op := .makeMap x y, type := ty, pos := pos, after := after, guard := none } :: rest) d σ h = aOp1 P Γ (.makeMap x y) (fPut P Γ K rest d t) σ h := (rfl)
@[go_sem] theorem aOpsR_makeMap (x : TypeId) (y : Option Operand) (K : Tm → AH → Prop) (t : Option Tmp) (ty : TypeId) (pos : String) (after : Array Edge) (rest : List Oper) : aOpsR P Γ K ({ dst := t, op := .makeMap x y, type := ty, pos := pos, after := after, guard := none } :: rest) σ h = aOp1 P Γ (.makeMap x y) (rPut P Γ K rest t) σ h := (rfl)
@[go_sem] theorem xOp1_makeSlice (x : TypeId) (y z : Operand) (K : KT) : xOp1 P Γ B (.makeSlice x y z) K Q σ h = aOp1 P Γ (.makeSlice x y z) K σ h := (rfl)
@[go_sem] theorem aOpsF_makeSlice (x : TypeId) (y z : Operand) (K : Option (FuncId × List AV) → Tm → AH → Prop) (d : Option (FuncId × List AV)) (t : Option Tmp) (ty : TypeId) (pos : String) (after : Array Edge) (rest : List Oper) : aOpsF P Γ K ({ dst := t, op := .makeSlice x y z, type := ty, pos := pos, after := after, guard := none } :: rest) d σ h = aOp1 P Γ (.makeSlice x y z) (fPut P Γ K rest d t) σ h := (rfl)
@[go_sem] theorem aOpsR_makeSlice (x : TypeId) (y z : Operand) (K : Tm → AH → Prop) (t : Option Tmp) (ty : TypeId) (pos : String) (after : Array Edge) (rest : List Oper) : aOpsR P Γ K ({ dst := t, op := .makeSlice x y z, type := ty, pos := pos, after := after, guard := none } :: rest) σ h = aOp1 P Γ (.makeSlice x y z) (rPut P Γ K rest t) σ h := (rfl)
@[go_sem] theorem xOp1_slice (x : TypeId) (y : Operand) (z u v : Option Operand) (K : KT) : xOp1 P Γ B (.slice x y z u v) K Q σ h = aOp1 P Γ (.slice x y z u v) K σ h := (rfl)
@[go_sem] theorem aOpsF_slice (x : TypeId) (y : Operand) (z u v : Option Operand) (K : Option (FuncId × List AV) → Tm → AH → Prop) (d : Option (FuncId × List AV)) (t : Option Tmp) (ty : TypeId) (pos : String) (after : Array Edge) (rest : List Oper) : aOpsF P Γ K ({ dst := t, op := .slice x y z u v, type := ty, pos := pos, after := after, guard := none } :: rest) d σ h = aOp1 P Γ (.slice x y z u v) (fPut P Γ K rest d t) σ h := (rfl)
@[go_sem] theorem aOpsR_slice (x : TypeId) (y : Operand) (z u v : Option Operand) (K : Tm → AH → Prop) (t : Option Tmp) (ty : TypeId) (pos : String) (after : Array Edge) (rest : List Oper) : aOpsR P Γ K ({ dst := t, op := .slice x y z u v, type := ty, pos := pos, after := after, guard := none } :: rest) σ h = aOp1 P Γ (.slice x y z u v) (rPut P Γ K rest t) σ h := (rfl)
@[go_sem] theorem xOp1_fieldAddr (x : TypeId) (y : Operand) (z : Nat) (K : KT) : xOp1 P Γ B (.fieldAddr x y z) K Q σ h = aOp1 P Γ (.fieldAddr x y z) K σ h := (rfl)
@[go_sem] theorem aOpsF_fieldAddr (x : TypeId) (y : Operand) (z : Nat) (K : Option (FuncId × List AV) → Tm → AH → Prop) (d : Option (FuncId × List AV)) (t : Option Tmp) (ty : TypeId) (pos : String) (after : Array Edge) (rest : List Oper) : aOpsF P Γ K ({ dst := t, op := .fieldAddr x y z, type := ty, pos := pos, after := after, guard := none } :: rest) d σ h = aOp1 P Γ (.fieldAddr x y z) (fPut P Γ K rest d t) σ h := (rfl)
@[go_sem] theorem aOpsR_fieldAddr (x : TypeId) (y : Operand) (z : Nat) (K : Tm → AH → Prop) (t : Option Tmp) (ty : TypeId) (pos : String) (after : Array Edge) (rest : List Oper) : aOpsR P Γ K ({ dst := t, op := .fieldAddr x y z, type := ty, pos := pos, after := after, guard := none } :: rest) σ h = aOp1 P Γ (.fieldAddr x y z) (rPut P Γ K rest t) σ h := (rfl)
@[go_sem] theorem xOp1_field (x : TypeId) (y : Operand) (z : Nat) (K : KT) : xOp1 P Γ B (.field x y z) K Q σ h = aOp1 P Γ (.field x y z) K σ h := (rfl)
@[go_sem] theorem aOpsF_field (x : TypeId) (y : Operand) (z : Nat) (K : Option (FuncId × List AV) → Tm → AH → Prop) (d : Option (FuncId × List AV)) (t : Option Tmp) (ty : TypeId) (pos : String) (after : Array Edge) (rest : List Oper) : aOpsF P Γ K ({ dst := t, op := .field x y z, type := ty, pos := pos, after := after, guard := none } :: rest) d σ h = aOp1 P Γ (.field x y z) (fPut P Γ K rest d t) σ h := (rfl)
@[go_sem] theorem aOpsR_field (x : TypeId) (y : Operand) (z : Nat) (K : Tm → AH → Prop) (t : Option Tmp) (ty : TypeId) (pos : String) (after : Array Edge) (rest : List Oper) : aOpsR P Γ K ({ dst := t, op := .field x y z, type := ty, pos := pos, after := after, guard := none } :: rest) σ h = aOp1 P Γ (.field x y z) (rPut P Γ K rest t) σ h := (rfl)
@[go_sem] theorem xOp1_indexAddr (x : TypeId) (y z : Operand) (K : KT) : xOp1 P Γ B (.indexAddr x y z) K Q σ h = aOp1 P Γ (.indexAddr x y z) K σ h := (rfl)
@[go_sem] theorem aOpsF_indexAddr (x : TypeId) (y z : Operand) (K : Option (FuncId × List AV) → Tm → AH → Prop) (d : Option (FuncId × List AV)) (t : Option Tmp) (ty : TypeId) (pos : String) (after : Array Edge) (rest : List Oper) : aOpsF P Γ K ({ dst := t, op := .indexAddr x y z, type := ty, pos := pos, after := after, guard := none } :: rest) d σ h = aOp1 P Γ (.indexAddr x y z) (fPut P Γ K rest d t) σ h := (rfl)
@[go_sem] theorem aOpsR_indexAddr (x : TypeId) (y z : Operand) (K : Tm → AH → Prop) (t : Option Tmp) (ty : TypeId) (pos : String) (after : Array Edge) (rest : List Oper) : aOpsR P Γ K ({ dst := t, op := .indexAddr x y z, type := ty, pos := pos, after := after, guard := none } :: rest) σ h = aOp1 P Γ (.indexAddr x y z) (rPut P Γ K rest t) σ h := (rfl)
@[go_sem] theorem xOp1_index (x : TypeId) (y z : Operand) (K : KT) : xOp1 P Γ B (.index x y z) K Q σ h = aOp1 P Γ (.index x y z) K σ h := (rfl)
@[go_sem] theorem aOpsF_index (x : TypeId) (y z : Operand) (K : Option (FuncId × List AV) → Tm → AH → Prop) (d : Option (FuncId × List AV)) (t : Option Tmp) (ty : TypeId) (pos : String) (after : Array Edge) (rest : List Oper) : aOpsF P Γ K ({ dst := t, op := .index x y z, type := ty, pos := pos, after := after, guard := none } :: rest) d σ h = aOp1 P Γ (.index x y z) (fPut P Γ K rest d t) σ h := (rfl)
@[go_sem] theorem aOpsR_index (x : TypeId) (y z : Operand) (K : Tm → AH → Prop) (t : Option Tmp) (ty : TypeId) (pos : String) (after : Array Edge) (rest : List Oper) : aOpsR P Γ K ({ dst := t, op := .index x y z, type := ty, pos := pos, after := after, guard := none } :: rest) σ h = aOp1 P Γ (.index x y z) (rPut P Γ K rest t) σ h := (rfl)
@[go_sem] theorem xOp1_lookup (x : TypeId) (y z : Operand) (u : Bool) (K : KT) : xOp1 P Γ B (.lookup x y z u) K Q σ h = aOp1 P Γ (.lookup x y z u) K σ h := (rfl)
@[go_sem] theorem aOpsF_lookup (x : TypeId) (y z : Operand) (u : Bool) (K : Option (FuncId × List AV) → Tm → AH → Prop) (d : Option (FuncId × List AV)) (t : Option Tmp) (ty : TypeId) (pos : String) (after : Array Edge) (rest : List Oper) : aOpsF P Γ K ({ dst := t, op := .lookup x y z u, type := ty, pos := pos, after := after, guard := none } :: rest) d σ h = aOp1 P Γ (.lookup x y z u) (fPut P Γ K rest d t) σ h := (rfl)
@[go_sem] theorem aOpsR_lookup (x : TypeId) (y z : Operand) (u : Bool) (K : Tm → AH → Prop) (t : Option Tmp) (ty : TypeId) (pos : String) (after : Array Edge) (rest : List Oper) : aOpsR P Γ K ({ dst := t, op := .lookup x y z u, type := ty, pos := pos, after := after, guard := none } :: rest) σ h = aOp1 P Γ (.lookup x y z u) (rPut P Γ K rest t) σ h := (rfl)
@[go_sem] theorem xOp1_mapUpdate (x : TypeId) (y z u : Operand) (K : KT) : xOp1 P Γ B (.mapUpdate x y z u) K Q σ h = aOp1 P Γ (.mapUpdate x y z u) K σ h := (rfl)
@[go_sem] theorem aOpsF_mapUpdate (x : TypeId) (y z u : Operand) (K : Option (FuncId × List AV) → Tm → AH → Prop) (d : Option (FuncId × List AV)) (t : Option Tmp) (ty : TypeId) (pos : String) (after : Array Edge) (rest : List Oper) : aOpsF P Γ K ({ dst := t, op := .mapUpdate x y z u, type := ty, pos := pos, after := after, guard := none } :: rest) d σ h = aOp1 P Γ (.mapUpdate x y z u) (fPut P Γ K rest d t) σ h := (rfl)
@[go_sem] theorem aOpsR_mapUpdate (x : TypeId) (y z u : Operand) (K : Tm → AH → Prop) (t : Option Tmp) (ty : TypeId) (pos : String) (after : Array Edge) (rest : List Oper) : aOpsR P Γ K ({ dst := t, op := .mapUpdate x y z u, type := ty, pos := pos, after := after, guard := none } :: rest) σ h = aOp1 P Γ (.mapUpdate x y z u) (rPut P Γ K rest t) σ h := (rfl)
@[go_sem] theorem xOp1_mapEntry (x : TypeId) (y z : Operand) (K : KT) : xOp1 P Γ B (.mapEntry x y z) K Q σ h = aOp1 P Γ (.mapEntry x y z) K σ h := (rfl)
@[go_sem] theorem aOpsF_mapEntry (x : TypeId) (y z : Operand) (K : Option (FuncId × List AV) → Tm → AH → Prop) (d : Option (FuncId × List AV)) (t : Option Tmp) (ty : TypeId) (pos : String) (after : Array Edge) (rest : List Oper) : aOpsF P Γ K ({ dst := t, op := .mapEntry x y z, type := ty, pos := pos, after := after, guard := none } :: rest) d σ h = aOp1 P Γ (.mapEntry x y z) (fPut P Γ K rest d t) σ h := (rfl)
@[go_sem] theorem aOpsR_mapEntry (x : TypeId) (y z : Operand) (K : Tm → AH → Prop) (t : Option Tmp) (ty : TypeId) (pos : String) (after : Array Edge) (rest : List Oper) : aOpsR P Γ K ({ dst := t, op := .mapEntry x y z, type := ty, pos := pos, after := after, guard := none } :: rest) σ h = aOp1 P Γ (.mapEntry x y z) (rPut P Γ K rest t) σ h := (rfl)
@[go_sem] theorem xOp1_entryStore (x : TypeId) (y z u : Operand) (K : KT) : xOp1 P Γ B (.entryStore x y z u) K Q σ h = aOp1 P Γ (.entryStore x y z u) K σ h := (rfl)
@[go_sem] theorem aOpsF_entryStore (x : TypeId) (y z u : Operand) (K : Option (FuncId × List AV) → Tm → AH → Prop) (d : Option (FuncId × List AV)) (t : Option Tmp) (ty : TypeId) (pos : String) (after : Array Edge) (rest : List Oper) : aOpsF P Γ K ({ dst := t, op := .entryStore x y z u, type := ty, pos := pos, after := after, guard := none } :: rest) d σ h = aOp1 P Γ (.entryStore x y z u) (fPut P Γ K rest d t) σ h := (rfl)
@[go_sem] theorem aOpsR_entryStore (x : TypeId) (y z u : Operand) (K : Tm → AH → Prop) (t : Option Tmp) (ty : TypeId) (pos : String) (after : Array Edge) (rest : List Oper) : aOpsR P Γ K ({ dst := t, op := .entryStore x y z u, type := ty, pos := pos, after := after, guard := none } :: rest) σ h = aOp1 P Γ (.entryStore x y z u) (rPut P Γ K rest t) σ h := (rfl)
@[go_sem] theorem xOp1_insert (x : TypeId) (y z u : Operand) (K : KT) : xOp1 P Γ B (.insert x y z u) K Q σ h = aOp1 P Γ (.insert x y z u) K σ h := (rfl)
@[go_sem] theorem aOpsF_insert (x : TypeId) (y z u : Operand) (K : Option (FuncId × List AV) → Tm → AH → Prop) (d : Option (FuncId × List AV)) (t : Option Tmp) (ty : TypeId) (pos : String) (after : Array Edge) (rest : List Oper) : aOpsF P Γ K ({ dst := t, op := .insert x y z u, type := ty, pos := pos, after := after, guard := none } :: rest) d σ h = aOp1 P Γ (.insert x y z u) (fPut P Γ K rest d t) σ h := (rfl)
@[go_sem] theorem aOpsR_insert (x : TypeId) (y z u : Operand) (K : Tm → AH → Prop) (t : Option Tmp) (ty : TypeId) (pos : String) (after : Array Edge) (rest : List Oper) : aOpsR P Γ K ({ dst := t, op := .insert x y z u, type := ty, pos := pos, after := after, guard := none } :: rest) σ h = aOp1 P Γ (.insert x y z u) (rPut P Γ K rest t) σ h := (rfl)
@[go_sem] theorem xOp1_range (x : TypeId) (y : Operand) (K : KT) : xOp1 P Γ B (.range x y) K Q σ h = aOp1 P Γ (.range x y) K σ h := (rfl)
@[go_sem] theorem aOpsF_range (x : TypeId) (y : Operand) (K : Option (FuncId × List AV) → Tm → AH → Prop) (d : Option (FuncId × List AV)) (t : Option Tmp) (ty : TypeId) (pos : String) (after : Array Edge) (rest : List Oper) : aOpsF P Γ K ({ dst := t, op := .range x y, type := ty, pos := pos, after := after, guard := none } :: rest) d σ h = aOp1 P Γ (.range x y) (fPut P Γ K rest d t) σ h := (rfl)
@[go_sem] theorem aOpsR_range (x : TypeId) (y : Operand) (K : Tm → AH → Prop) (t : Option Tmp) (ty : TypeId) (pos : String) (after : Array Edge) (rest : List Oper) : aOpsR P Γ K ({ dst := t, op := .range x y, type := ty, pos := pos, after := after, guard := none } :: rest) σ h = aOp1 P Γ (.range x y) (rPut P Γ K rest t) σ h := (rfl)
@[go_sem] theorem xOp1_next (x : Operand) (y : Bool) (K : KT) : xOp1 P Γ B (.next x y) K Q σ h = aOp1 P Γ (.next x y) K σ h := (rfl)
@[go_sem] theorem aOpsF_next (x : Operand) (y : Bool) (K : Option (FuncId × List AV) → Tm → AH → Prop) (d : Option (FuncId × List AV)) (t : Option Tmp) (ty : TypeId) (pos : String) (after : Array Edge) (rest : List Oper) : aOpsF P Γ K ({ dst := t, op := .next x y, type := ty, pos := pos, after := after, guard := none } :: rest) d σ h = aOp1 P Γ (.next x y) (fPut P Γ K rest d t) σ h := (rfl)
@[go_sem] theorem aOpsR_next (x : Operand) (y : Bool) (K : Tm → AH → Prop) (t : Option Tmp) (ty : TypeId) (pos : String) (after : Array Edge) (rest : List Oper) : aOpsR P Γ K ({ dst := t, op := .next x y, type := ty, pos := pos, after := after, guard := none } :: rest) σ h = aOp1 P Γ (.next x y) (rPut P Γ K rest t) σ h := (rfl)
@[go_sem] theorem xOp1_entry (x : Operand) (K : KT) : xOp1 P Γ B (.entry x) K Q σ h = aOp1 P Γ (.entry x) K σ h := (rfl)
@[go_sem] theorem aOpsF_entry (x : Operand) (K : Option (FuncId × List AV) → Tm → AH → Prop) (d : Option (FuncId × List AV)) (t : Option Tmp) (ty : TypeId) (pos : String) (after : Array Edge) (rest : List Oper) : aOpsF P Γ K ({ dst := t, op := .entry x, type := ty, pos := pos, after := after, guard := none } :: rest) d σ h = aOp1 P Γ (.entry x) (fPut P Γ K rest d t) σ h := (rfl)
@[go_sem] theorem aOpsR_entry (x : Operand) (K : Tm → AH → Prop) (t : Option Tmp) (ty : TypeId) (pos : String) (after : Array Edge) (rest : List Oper) : aOpsR P Γ K ({ dst := t, op := .entry x, type := ty, pos := pos, after := after, guard := none } :: rest) σ h = aOp1 P Γ (.entry x) (rPut P Γ K rest t) σ h := (rfl)
@[go_sem] theorem xOp1_typeAssert (x : Operand) (y z : TypeId) (u : Bool) (K : KT) : xOp1 P Γ B (.typeAssert x y z u) K Q σ h = aOp1 P Γ (.typeAssert x y z u) K σ h := (rfl)
@[go_sem] theorem aOpsF_typeAssert (x : Operand) (y z : TypeId) (u : Bool) (K : Option (FuncId × List AV) → Tm → AH → Prop) (d : Option (FuncId × List AV)) (t : Option Tmp) (ty : TypeId) (pos : String) (after : Array Edge) (rest : List Oper) : aOpsF P Γ K ({ dst := t, op := .typeAssert x y z u, type := ty, pos := pos, after := after, guard := none } :: rest) d σ h = aOp1 P Γ (.typeAssert x y z u) (fPut P Γ K rest d t) σ h := (rfl)
@[go_sem] theorem aOpsR_typeAssert (x : Operand) (y z : TypeId) (u : Bool) (K : Tm → AH → Prop) (t : Option Tmp) (ty : TypeId) (pos : String) (after : Array Edge) (rest : List Oper) : aOpsR P Γ K ({ dst := t, op := .typeAssert x y z u, type := ty, pos := pos, after := after, guard := none } :: rest) σ h = aOp1 P Γ (.typeAssert x y z u) (rPut P Γ K rest t) σ h := (rfl)
@[go_sem] theorem xOp1_extract (x : Operand) (y : Nat) (K : KT) : xOp1 P Γ B (.extract x y) K Q σ h = aOp1 P Γ (.extract x y) K σ h := (rfl)
@[go_sem] theorem aOpsF_extract (x : Operand) (y : Nat) (K : Option (FuncId × List AV) → Tm → AH → Prop) (d : Option (FuncId × List AV)) (t : Option Tmp) (ty : TypeId) (pos : String) (after : Array Edge) (rest : List Oper) : aOpsF P Γ K ({ dst := t, op := .extract x y, type := ty, pos := pos, after := after, guard := none } :: rest) d σ h = aOp1 P Γ (.extract x y) (fPut P Γ K rest d t) σ h := (rfl)
@[go_sem] theorem aOpsR_extract (x : Operand) (y : Nat) (K : Tm → AH → Prop) (t : Option Tmp) (ty : TypeId) (pos : String) (after : Array Edge) (rest : List Oper) : aOpsR P Γ K ({ dst := t, op := .extract x y, type := ty, pos := pos, after := after, guard := none } :: rest) σ h = aOp1 P Γ (.extract x y) (rPut P Γ K rest t) σ h := (rfl)
end
end Go.Abs

/- A region that draws its order, reckoned operation by operation: what each one gives is the same in every order. It says nothing of any program; no conditions. -/
set_option linter.unusedSimpArgs false
set_option linter.unusedVariables false
namespace Go.Abs
open Go Go.RowKit

def okOrd (n : Nat) (dep : List (List Nat)) : List Nat → List Nat → Bool
  | done, [] => (List.range n).all fun i => done.contains i
  | done, i :: r => Nat.blt i n && ((dep.getD i []).all fun d => done.contains d) && !done.contains i && okOrd n dep (i :: done) r
def dstA (ops : Array Oper) (i : Nat) : Nat := ((ops[i]?).bind (·.dst)).getD 0
/-- Every operation writes its own place, and none of the frame's. -/
def ownOK (FR : List Nat) (ops : Array Oper) : Bool := (List.range ops.size).all fun i => ((ops[i]?).bind (·.dst)).isSome && !FR.contains (dstA ops i) && (List.range ops.size).all fun j => i == j || dstA ops i != dstA ops j
section
variable {P : Program} {Γ : Nat → Option (List AV)} {N : Nat} {σ0 : Tm} {Q : Exit → Tm → AH → Prop}
theorem lk_put_self (d : Nat) (v : AV) (σ : Tm) : lk (put (some d) v σ) d = v := by simp [put, lk]
theorem lk_put_ne {d t : Nat} (h : t ≠ d) (v : AV) (σ : Tm) : lk (put (some d) v σ) t = lk σ t := by
  have : (d == t) = false := by simp; omega
  simp [put, lk, this]
  try omega
theorem aOps_vals {ops : Array Oper} {K : Tm → AH → Prop} (dep : List (List Nat)) (FR : List Nat) (val : Nat → AV) (H : List Nat → AH) (hown : ownOK FR ops = true) (hg : (ops.toList.all fun o => o.guard.isNone) = true)
    (step : ∀ (i : Nat) (o : Oper), ops[i]? = some o → ∀ (done : List Nat) (σ : Tm), (∀ d ∈ dep.getD i [], d ∈ done) → (∀ d ∈ done, ∀ e ∈ dep.getD d [], e ∈ done) → i ∉ done → (∀ t ∈ FR, lk σ t = lk σ0 t) → (∀ d ∈ done, d < ops.size → lk σ (dstA ops d) = val d) → ∀ C : AV → Tm → AH → Prop, C (val i) σ (H (i :: done)) → aOper P Γ o C σ (H done))
    (fin : ∀ (done : List Nat) (σ : Tm), (∀ i < ops.size, i ∈ done) → (∀ t ∈ FR, lk σ t = lk σ0 t) → (∀ i < ops.size, lk σ (dstA ops i) = val i) → K σ (H done)) :
    ∀ (l done : List Nat) (σ : Tm), okOrd ops.size dep done l = true → (∀ d ∈ done, ∀ e ∈ dep.getD d [], e ∈ done) → (∀ t ∈ FR, lk σ t = lk σ0 t) → (∀ d ∈ done, d < ops.size → lk σ (dstA ops d) = val d) → aOps P Γ ops.toList K (l.filterMap (ops[·]?)) σ (H done)
  | [], done, σ, ho, _, h1, h2 => by
    rw [okOrd, List.all_eq_true] at ho
    have hd : ∀ i < ops.size, i ∈ done := fun i hi => by simpa using ho i (List.mem_range.2 hi)
    exact fin done σ hd h1 fun i hi => h2 i (hd i hi) hi
  | i :: r, done, σ, ho, hcl, h1, h2 => by
    simp only [okOrd, Bool.and_eq_true, List.all_eq_true, Bool.not_eq_true'] at ho
    obtain ⟨⟨⟨k1, k2⟩, k3⟩, k4⟩ := ho
    have hi : i < ops.size := by simpa [Nat.blt_eq] using k1
    have hnd : i ∉ done := by simpa using k3
    have eo : ops[i]? = some ops[i] := by simp [hi]
    have hown' := hown
    rw [ownOK, List.all_eq_true] at hown'
    have q := hown' i (List.mem_range.2 hi)
    simp only [Bool.and_eq_true, List.all_eq_true, Bool.not_eq_true'] at q
    obtain ⟨⟨q1, q2⟩, q3⟩ := q
    have hdst : (ops[i]).dst = some (dstA ops i) := by
      rw [eo] at q1
      simp only [Option.bind_some] at q1
      obtain ⟨d, e⟩ := Option.isSome_iff_exists.1 q1
      rw [dstA, eo, Option.bind_some, e]; rfl
    rw [List.filterMap_cons, eo]
    simp only
    have hgi : (ops[i]).guard = none := by
      have := List.all_eq_true.1 hg ops[i] (by simp)
      simpa using this
    rw [aOps, hgi]
    simp only
    refine step i ops[i] eo done σ (fun d hd => by simpa using k2 d hd) hcl hnd h1 h2 _ ?_
    rw [hdst]
    refine aOps_vals dep FR val H hown hg step fin r (i :: done) _ k4 (fun d hd e he => by
      rcases List.mem_cons.1 hd with rfl | hd
      · exact List.mem_cons_of_mem _ (by simpa using k2 e he)
      · exact List.mem_cons_of_mem _ (hcl d hd e he)) (fun t ht => ?_) (fun d hd hds => ?_)
    · rw [lk_put_ne (fun e => by subst e; simp at q2; exact q2 ht)]; exact h1 t ht
    · rcases List.mem_cons.1 hd with rfl | hd
      · rw [lk_put_self]
      · have hne : i ≠ d := fun e => hnd (e ▸ hd)
        have := q3 d (List.mem_range.2 hds)
        simp only [Bool.or_eq_true, beq_iff_eq, bne_iff_ne, ne_eq] at this
        rcases this with e | e
        · exact absurd e hne
        · rw [lk_put_ne (fun e' => e e'.symm)]; exact h2 d hd hds
/-- **A region that draws its order**, reckoned operation by operation. -/
theorem awp_any_vals {id : Nat} {ops : Array Oper} (dep : List (List Nat)) (FR : List Nat) (val : Nat → AV) (H : List Nat → AH) (hm : P.follows .mixedOrders = true) (hd : dstOK N ops = true) (hown : ownOK FR ops = true) (hg : (ops.toList.all fun o => o.guard.isNone) = true)
    (ho : ((ordersOf ops ops.size (Array.replicate ops.size false)).all fun l => okOrd ops.size dep [] l) = true)
    (step : ∀ (i : Nat) (o : Oper), ops[i]? = some o → ∀ (done : List Nat) (σ : Tm), (∀ d ∈ dep.getD i [], d ∈ done) → (∀ d ∈ done, ∀ e ∈ dep.getD d [], e ∈ done) → i ∉ done → (∀ t ∈ FR, lk σ t = lk σ0 t) → (∀ d ∈ done, d < ops.size → lk σ (dstA ops d) = val d) → ∀ C : AV → Tm → AH → Prop, C (val i) σ (H (i :: done)) → aOper P Γ o C σ (H done))
    (fin : ∀ (done : List Nat) (σ : Tm), (∀ i < ops.size, i ∈ done) → (∀ t ∈ FR, lk σ t = lk σ0 t) → (∀ i < ops.size, lk σ (dstA ops i) = val i) → Q .normal σ (H done)) :
    AWP P Γ N (.region id ops true) Q σ0 (H []) :=
  awp_any hm hd fun l hl => aOps_vals dep FR val H hown hg step fin l [] σ0 (List.all_eq_true.1 ho l hl) (fun _ h => by simp at h) (fun _ _ => rfl) (fun _ h => by simp at h)
theorem aOper_plain (d : Option Tmp) (op : Op) (ty : TypeId) (pos : String) (after : Array Edge) (C : AV → Tm → AH → Prop) (σ : Tm) (h : AH) : aOper P Γ { dst := d, op := op, type := ty, pos := pos, after := after, guard := none } C σ h = aOp1 P Γ op C σ h := (rfl)
end
end Go.Abs
