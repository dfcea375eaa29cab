/- Texts joined: AbsI, AbsJ. No conditions. -/
import Derived.Test.YtjdhgaflenhljaaGreatDoorMrB
/- The laws of a walk over abstract values: regions in the order of the text, sequence, branches, blocks, loops, calls. It says nothing of any program; no conditions. -/
set_option linter.unusedSimpArgs false
set_option linter.unusedVariables false
namespace Go.Abs
open Go Go.RowKit

/-- A fence that lets all in. -/
def Fr (r : Option Nat) : Fence := { fn := fun _ => True, depth := none, alive := false, round := r }

theorem callsIn_Fr {r : Option Nat} {n : Nat} {P : Program} {f : FuncId} {args : Array Value} {w : World} {R : Ending → World → Prop} : CallsIn (Fr r) n P f args w R ↔ Calls P f args w R :=
  (show CallsIn (Fr r) n P f args w R ↔ CallsIn Fence.wide n P f args w R from Iff.rfl).trans callsIn_wide

/-- What a call leaves, seen abstractly. -/
def Res (Γ : Nat → Option (List AV)) (G : Gh) (R : AV → AH → Prop) (e : Ending) (w' : World) : Prop :=
  ∃ v G' av h', e = .returned v ∧ G.le G' ∧ Inv Γ G' h' w' ∧ VR G' av v ∧ R av h'

/-- A function's contract. -/
def ACalls (P : Program) (Γ : Nat → Option (List AV)) (f : FuncId) (args : List AV) (h : AH) (R : AV → AH → Prop) : Prop :=
  (∀ vs w, (callFunc f vs).run P w = .ok (.enter f vs) w) ∧
  ∀ (G : Gh) (w : World) (vs : Array Value), Inv Γ G h w → VRs G args vs → Calls P f vs w (Res Γ G R)

/-- A call of a loop's own function 'yield'. -/
def AYield (P : Program) (Γ : Nat → Option (List AV)) (l : Nat) (args : List AV) (h : AH) (R : AV → AH → Prop) : Prop :=
  ∀ (G : Gh) (w : World) (vs : Array Value) (b : Nat), Inv Γ G h w → VRs G args vs → G.ρ l = some b →
    ∃ fn tmps assign body, (Instr.yield b vs).run P w = .ok (.round b fn tmps assign body) w ∧ ∀ r, RoundIn (Fr r) 0 P b fn tmps assign body w (Res Γ G R)

def mark (D : Nat) : Deferred := { target := .collected D, args := #[] }

/-- The ways in which a piece of code is left. -/
def Post (Γ : Nat → Option (List AV)) (N : Nat) (G : Gh) (ds : List Deferred) (Q : Exit → Tm → AH → Prop) (e : Exit) (a' : Act) (w' : World) : Prop :=
  ∃ (G' : Gh) (σ' : Tm) (h' : AH) (Ds : List Nat), G.le G' ∧ Inv Γ G' h' w' ∧ TR N G' σ' a'.tmps ∧ a'.defers = Ds.map mark ++ ds ∧ (∀ D ∈ Ds, ¬ G.ds D ∧ G'.ds D ∧ ∀ b, G'.lpD b ≠ some D) ∧ Ds.Nodup ∧ Q e σ' h'

/-- A piece of code, seen abstractly. -/
def AWP (P : Program) (Γ : Nat → Option (List AV)) (N : Nat) (c : Code) (Q : Exit → Tm → AH → Prop) (σ : Tm) (h : AH) : Prop :=
  ∀ (r : Option Nat) (G : Gh) (w : World) (a : Act), (∀ l, r = some l → ∃ D, G.lpD l = some D) → Inv Γ G h w → TR N G σ a.tmps → c.wpIn (Fr r) 0 P (Post Γ N G a.defers Q) a w

def put (d : Option Tmp) (v : AV) (σ : Tm) : Tm :=
  match d with
  | some d => (d, v) :: σ
  | none => σ

/-- The rest of a region, behind a call. -/
def aNext (K : AV → Tm → AH → Prop) (σ : Tm) (v : AV) (h : AH) : Prop := K v σ h

/-- One operation of a region, its outcome being fixed. -/
def aOper0 (P : Program) (Γ : Nat → Option (List AV)) (o : Oper) (K : AV → Tm → AH → Prop) (σ : Tm) (h : AH) : Prop :=
  match o.op with
  | .call c => (match c.callee with
    | .value f => (match ev Γ σ f with
      | .func g first cap => ACalls P Γ g (first ++ c.args.toList.map (ev Γ σ) ++ cap) h (aNext K σ)
      | .yield l => AYield P Γ l (c.args.toList.map (ev Γ σ)) h (aNext K σ)
      | _ => False)
    | _ => aop P Γ σ h o.op fun v h' => K v σ h')
  | op => aop P Γ σ h op fun v h' => K v σ h'

def isMk : AV → Bool
  | .tuple [] => true
  | _ => false
/-- Arrays that are made here are of one's own (a mark among the temporaries that no frame has). -/
def mF (σ : Tm) : Bool := isMk (lk σ 1000000)
/-- Only what appends make is of one's own. -/
def mB (σ : Tm) : Bool := isMk (lk σ 1000001)
/-- Operations whose outcome is open, or that make arrays of one's own. -/
def aSpec (P : Program) (Γ : Nat → Option (List AV)) (σ : Tm) (h : AH) (op : Op) (K : AV → AH → Prop) : Option Prop :=
  match op with
  | .next it false => some (aNxt (ev Γ σ it) h K)
  | .binOp op t x y _ => if isNilC y then some (aNilC P t op (ev Γ σ x) fun v => K v h) else if isNilI y then some (aNilI P t op (ev Γ σ x) fun v => K v h) else none
  | .buildSlice t len parts => if mF σ then some (aBuildSliceM P t len (evParts Γ σ parts) h K) else none
  | .call c => (match c.callee with
    | .builtin .append => if (mF σ || mB σ) then some (match c.argTypes.toList, c.args.toList with
      | [t, u], [s, x] => aAppendM P t u (ev Γ σ s) (ev Γ σ x) h K
      | _, _ => False) else none
    | _ => none)
  | _ => none
/-- By a method's name a value's dynamic type gives this function, and this receiver. -/
def AMeth (P : Program) (Γ : Nat → Option (List AV)) (t : TypeId) (v : AV) (name : String) (h : AH) (f : FuncId) (x : AV) : Prop :=
  ∀ (G : Gh) (w : World) (u : Value), Inv Γ G h w → VR G v u → ∃ u', (method (P.types.size + Made.depth) t u name).run P w = .ok (f, u') w ∧ VR G x u'
/-- A call of a method by its name. -/
def aInvoke (P : Program) (Γ : Nat → Option (List AV)) (r : AV) (name : String) (args : List AV) (h : AH) (R : AV → AH → Prop) : Prop :=
  match r with
  | .iface t v => ∃ f x, AMeth P Γ t v name h f x ∧ ACalls P Γ f (x :: args) h R
  | _ => False
def aInvk (P : Program) (Γ : Nat → Option (List AV)) (σ : Tm) (h : AH) (op : Op) (K : AV → AH → Prop) : Option Prop :=
  match op with
  | .call c => (match c.callee with
    | .invoke r name => some (aInvoke P Γ (ev Γ σ r) name (c.args.toList.map (ev Γ σ)) h K)
    | _ => none)
  | _ => none
/-- One operation of a region. -/
def aOper (P : Program) (Γ : Nat → Option (List AV)) (o : Oper) (K : AV → Tm → AH → Prop) (σ : Tm) (h : AH) : Prop :=
  match aInvk P Γ σ h o.op (fun v h' => K v σ h') with
  | some p => p
  | none => match aSpec P Γ σ h o.op (fun v h' => K v σ h') with
    | some p => p
    | none => aOper0 P Γ o K σ h

/-- A guard that is not yet decided. -/
def aGuard (b want : Bool) (A B : Prop) : Prop := (b = want → A) ∧ (b = !want → B)
/-- The bool that a guard asks for. -/
def aBool (v : AV) (want : Bool) (A B : Prop) : Prop := match v with
  | .bool b => aGuard b want A B
  | _ => False
/-- The bool that a guard asks for; or nothing, where what it asks for was not done. -/
def aBoolG (v : AV) (want : Bool) (A B C : Prop) : Prop := match v with
  | .bool b => aGuard b want A B
  | .tuple [] => C
  | _ => False
def gv : AV → Option (Option Bool)
  | .bool b => some (some b)
  | .tuple [] => some none
  | _ => none
/-- The temporary that a guard asks for. -/
def aDst (d : Option Tmp) (A : Tmp → Prop) : Prop := match d with
  | some t => A t
  | none => False
def dstAt : List Oper → Nat → Option Tmp
  | [], _ => none
  | o :: _, 0 => o.dst
  | _ :: r, n + 1 => dstAt r n

/-- Operations in the order of the text. -/
def aOps (P : Program) (Γ : Nat → Option (List AV)) (ops : List Oper) (K : Tm → AH → Prop) : List Oper → Tm → AH → Prop
  | [], σ, h => K σ h
  | o :: rest, σ, h =>
    match o.guard with
    | none => aOper P Γ o (fun v σ h => aOps P Γ ops K rest (put o.dst v σ) h) σ h
    | some (j, want) => aDst (dstAt ops j) fun t => aBoolG (lk σ t) want (aOper P Γ o (fun v σ h => aOps P Γ ops K rest (put o.dst v σ) h) ((t, .bool want) :: σ) h)
        (aOps P Γ ops K rest (put o.dst (.tuple []) ((t, .bool (!want)) :: σ)) h) (aOps P Γ ops K rest (put o.dst (.tuple []) σ) h)

/-- All places that a region writes lie in the frame. -/
def dstOK (N : Nat) (ops : Array Oper) : Bool := ops.toList.all fun o => match o.dst with
  | some d => Nat.blt d N
  | none => true

section
variable {P : Program} {Γ : Nat → Option (List AV)} {G : Gh} {h : AH} {w : World} {N : Nat} {σ : Tm} {Q : Exit → Tm → AH → Prop}

theorem Res.mono {R R' : AV → AH → Prop} (hR : ∀ v h, R v h → R' v h) {G0 : Gh} (hle : G0.le G) {e : Ending} (H : Res Γ G R e w) : Res Γ G0 R' e w := by
  obtain ⟨v, G', av, h', h1, h2, h3, h4, h5⟩ := H
  exact ⟨v, G', av, h', h1, hle.trans h2, h3, h4, hR _ _ h5⟩

theorem ACalls.mono {f : FuncId} {args : List AV} {R R' : AV → AH → Prop} (H : ACalls P Γ f args h R) (hR : ∀ v h, R v h → R' v h) : ACalls P Γ f args h R' :=
  ⟨H.1, fun G w vs hI hv => (H.2 G w vs hI hv).mono fun _ _ => Res.mono hR (Gh.le.refl G)⟩

theorem AYield.mono {l : Nat} {args : List AV} {R R' : AV → AH → Prop} (H : AYield P Γ l args h R) (hR : ∀ v h, R v h → R' v h) : AYield P Γ l args h R' := fun G w vs b hI hv hb => by
  obtain ⟨fn, tmps, assign, body, h1, h2⟩ := H G w vs b hI hv hb
  exact ⟨fn, tmps, assign, body, h1, fun r => (h2 r).mono fun _ _ => Res.mono hR (Gh.le.refl G)⟩

theorem Post.mono {ds : List Deferred} {Q' : Exit → Tm → AH → Prop} (hQ : ∀ e σ h, Q e σ h → Q' e σ h) {e : Exit} {a : Act} (H : Post Γ N G ds Q e a w) : Post Γ N G ds Q' e a w := by
  obtain ⟨G', σ', h', Ds, h1, h2, h3, h4, h5, h6, h7⟩ := H
  exact ⟨G', σ', h', Ds, h1, h2, h3, h4, h5, h6, hQ _ _ _ h7⟩

theorem AWP.mono {c : Code} {Q' : Exit → Tm → AH → Prop} (H : AWP P Γ N c Q σ h) (hQ : ∀ e σ h, Q e σ h → Q' e σ h) : AWP P Γ N c Q' σ h :=
  fun r G w a h1 h2 h3 => wpIn_mono (H r G w a h1 h2 h3) fun _ _ _ => Post.mono hQ

theorem Post.now (hI : Inv Γ G h w) {a : Act} (ht : TR N G σ a.tmps) {e : Exit} (hq : Q e σ h) : Post Γ N G a.defers Q e a w :=
  ⟨G, σ, h, [], Gh.le.refl G, hI, ht, rfl, fun D hD => by simp at hD, List.nodup_nil, hq⟩

theorem Post.trans {G1 : Gh} {ds : List Deferred} {Ds : List Nat} (hle : G.le G1) (hDs : ∀ D ∈ Ds, ¬ G.ds D ∧ G1.ds D ∧ ∀ b, G1.lpD b ≠ some D) (hnd : Ds.Nodup) {e : Exit} {a : Act} (H : Post Γ N G1 (Ds.map mark ++ ds) Q e a w) : Post Γ N G ds Q e a w := by
  obtain ⟨G', σ', h', Ds', h1, h2, h3, h4, h5, h6, h7⟩ := H
  refine ⟨G', σ', h', Ds' ++ Ds, hle.trans h1, h2, h3, by rw [h4]; simp, fun D hD => ?_, ?_, h7⟩
  · rcases List.mem_append.1 hD with hD | hD
    · exact ⟨fun k => (h5 D hD).1 (hle.ds D k), (h5 D hD).2⟩
    · exact ⟨(hDs D hD).1, h1.ds D (hDs D hD).2.1, fun b e => by
        obtain ⟨b', e'⟩ := h1.lpN b D e (hDs D hD).2.1
        exact (hDs D hD).2.2 b' e'⟩
  · rw [List.nodup_append]
    refine ⟨h6, hnd, fun x hx y hy e => ?_⟩
    subst e
    exact (h5 x hx).1 (hDs x hy).2.1

theorem awp_skip (H : Q .normal σ h) : AWP P Γ N .skip Q σ h := fun _ _ _ _ _ hI ht => wpIn_skip (Post.now hI ht H)
theorem awp_label {l : Nat} (H : Q .normal σ h) : AWP P Γ N (.label l) Q σ h := fun _ _ _ _ _ hI ht => wpIn_label (Post.now hI ht H)
theorem awp_exit {id : Nat} (H : Q (.exit id) σ h) : AWP P Γ N (.exit id) Q σ h := fun _ _ _ _ _ hI ht => wpIn_exit (Post.now hI ht H)
theorem awp_goto {l : Nat} (H : Q (.goto l) σ h) : AWP P Γ N (.goto l) Q σ h := fun _ _ _ _ _ hI ht => wpIn_goto (Post.now hI ht H)
theorem awp_ret (H : Q .ret σ h) : AWP P Γ N .ret Q σ h := fun _ _ _ _ _ hI ht => wpIn_ret (Post.now hI ht H)

/-- What comes next, where a piece of code runs off its end. -/
def thenA (K : Tm → AH → Prop) (Q : Exit → Tm → AH → Prop) : Exit → Tm → AH → Prop
  | .normal, σ, h => K σ h
  | e, σ, h => Q e σ h

theorem AWP.after {c : Code} (H : AWP P Γ N c Q σ h) {r : Option Nat} {G0 : Gh} {ds : List Deferred} {Ds : List Nat} (hr : ∀ l, r = some l → ∃ D, G0.lpD l = some D) (hle : G0.le G)
    (hDs : ∀ D ∈ Ds, ¬ G0.ds D ∧ G.ds D ∧ ∀ b, G.lpD b ≠ some D) (hnd : Ds.Nodup) (hI : Inv Γ G h w) {a : Act} (ht : TR N G σ a.tmps) (hd : a.defers = Ds.map mark ++ ds) : c.wpIn (Fr r) 0 P (Post Γ N G0 ds Q) a w :=
  wpIn_mono (H r G w a (fun l e => by obtain ⟨D, k⟩ := hr l e; exact ⟨D, hle.lpD _ _ k⟩) hI ht) fun e a' w' hp => by rw [hd] at hp; exact hp.trans hle hDs hnd

theorem awp_seq {x y : Code} (H : AWP P Γ N x (thenA (AWP P Γ N y Q) Q) σ h) : AWP P Γ N (.seq x y) Q σ h := fun r G w a hr hI ht => by
  refine wpIn_seq (wpIn_mono (H r G w a hr hI ht) fun e a' w' hp => ?_)
  cases e with
  | normal =>
    obtain ⟨G', σ', h', Ds, h1, h2, h3, h4, h5, h6, h7⟩ := hp
    exact AWP.after h7 hr h1 h5 h6 h2 h3 h4
  | _ => exact hp

theorem awp_cond {c : Operand} {x y : Code} {b : Bool} (hc : ev Γ σ c = .bool b) (h1 : b = true → AWP P Γ N x Q σ h) (h2 : b = false → AWP P Γ N y Q σ h) : AWP P Γ N (.cond c x y) Q σ h := fun r G w a hr hI ht => by
  have hv := ev_VR hI ht c
  rw [hc] at hv
  have hb : a.eval c = .bool b := by
    generalize a.eval c = vc at hv
    cases hv; rfl
  cases b with
  | true => exact wpIn_cond_true hb (h1 rfl r G w a hr hI ht)
  | false => exact wpIn_cond_false hb (h2 rfl r G w a hr hI ht)

/-- A block takes up the exits that name it. -/
def blockA (id : Nat) (Q : Exit → Tm → AH → Prop) : Exit → Tm → AH → Prop
  | .exit id', σ, h => if id' = id then Q .normal σ h else Q (.exit id') σ h
  | e, σ, h => Q e σ h

theorem awp_block {id : Nat} {c : Code} (H : AWP P Γ N c (blockA id Q) σ h) : AWP P Γ N (.block id c) Q σ h := fun r G w a hr hI ht => by
  refine wpIn_block (wpIn_mono (H r G w a hr hI ht) fun e a' w' hp => ?_)
  cases e with
  | exit id' =>
    show if id' = id then _ else _
    obtain ⟨G', σ', h', Ds, h1, h2, h3, h4, h5, h6, h7⟩ := hp
    simp only [blockA] at h7
    split
    · rename_i he; rw [if_pos he] at h7; exact ⟨G', σ', h', Ds, h1, h2, h3, h4, h5, h6, h7⟩
    · rename_i he; rw [if_neg he] at h7; exact ⟨G', σ', h', Ds, h1, h2, h3, h4, h5, h6, h7⟩
  | _ => exact hp

/-- How a loop's round is left: off its end: the invariant, at a lesser number. -/
def roundA (I : Nat → Tm → AH → Prop) (n : Nat) (Q : Exit → Tm → AH → Prop) : Exit → Tm → AH → Prop
  | .normal, σ, h => ∃ m, m < n ∧ I m σ h
  | e, σ, h => Q e σ h

theorem wpIn_loop_idx {F : Fence} {m : Nat} {c : Code} {Q : Exit → Act → World → Prop} {a : Act} {w : World} (I : Nat → Act → World → Prop) {n : Nat} (h₀ : I n a w)
    (round : ∀ n a w, I n a w → c.wpIn F m P (Exit.then (fun a' w' => ∃ j, j < n ∧ I j a' w') Q) a w) : (Code.loop c).wpIn F m P Q a w := by
  intro b k cs hro hb hr
  have key : ∀ n a w, I n a w →
      ∃ e a' w', Q e a' w' ∧ ArrivesIn (Machine.fenced P F) P (lone (b.atR a (.code c :: .inLoop c :: k)) cs w) b k cs e a' w' := by
    intro n
    induction n using Nat.strongRecOn with
    | _ n ih =>
      intro a w hI
      obtain ⟨e, a₁, w₁, hq, harr⟩ := round n a w hI b (.inLoop c :: k) cs hro hb hr
      cases e with
      | normal =>
        obtain ⟨j, hlt, hI₁⟩ := hq
        obtain ⟨e₂, a₂, w₂, hq₂, harr₂⟩ := ih j hlt a₁ w₁ hI₁
        exact ⟨e₂, a₂, w₂, hq₂, .of_steps (StepsIn.trans harr (.one (fenced_calm hb hr rfl) stepR_inLoop)) harr₂⟩
      | exit id => exact ⟨_, a₁, w₁, hq, .pass (x := .inLoop c) rfl (fun _ _ => .inl (by simp)) harr⟩
      | goto l => exact ⟨_, a₁, w₁, hq, .pass (x := .inLoop c) rfl (fun _ _ => .inl (by simp)) harr⟩
      | ret => exact ⟨_, a₁, w₁, hq, .pass (x := .inLoop c) rfl (fun _ _ => .inl (by simp)) harr⟩
      | panic ch => exact ⟨_, a₁, w₁, hq, .pass (x := .inLoop c) rfl (fun _ _ => .inl (by simp)) harr⟩
      | outgrown => exact ⟨_, a₁, w₁, hq, .pass (x := .inLoop c) rfl (fun _ _ => .inl (by simp)) harr⟩
  obtain ⟨e, a', w', hq, harr⟩ := key n a w h₀
  exact ⟨e, a', w', hq, .of_steps (.one (fenced_calm hb hr rfl) stepR_loop) harr⟩

theorem awp_loop {c : Code} (I : Nat → Tm → AH → Prop) {n : Nat} (h0 : I n σ h) (H : ∀ n σ h, I n σ h → AWP P Γ N c (roundA I n Q) σ h) : AWP P Γ N (.loop c) Q σ h := fun r G w a hr hI ht => by
  refine wpIn_loop_idx (fun n a' w' => Post Γ N G a.defers (fun _ σ h => I n σ h) .normal a' w') (Post.now hI ht h0) fun n a' w' hp => ?_
  obtain ⟨G', σ', h', Ds, h1, h2, h3, h4, h5, h6, h7⟩ := hp
  refine wpIn_mono (AWP.after (H n σ' h' h7) hr h1 h5 h6 h2 h3 h4) fun e a'' w'' hp => ?_
  cases e with
  | normal =>
    obtain ⟨G', σ', h', Ds, h1, h2, h3, h4, h5, h6, m, hm, h7⟩ := hp
    exact ⟨m, hm, G', σ', h', Ds, h1, h2, h3, h4, h5, h6, h7⟩
  | _ => exact hp

/-- Forgetting temporaries. -/
theorem AWP.weaken {c : Code} {σ' : Tm} (H : AWP P Γ N c Q σ' h) (hw : ∀ i, lk σ' i = lk σ i ∨ lk σ' i = .top) : AWP P Γ N c Q σ h := fun r G w a hr hI ht =>
  H r G w a hr hI ⟨ht.1, fun i => by
    rcases hw i with e | e
    · rw [e]; exact ht.2 i
    · rw [e]; exact .top _⟩

/-- Temporaries of which less is known. -/
def Wkt (σ σ' : Tm) : Prop := ∀ (G : Gh) (i : Nat) (v : Value), VR G (lk σ i) v → VR G (lk σ' i) v
theorem Wkt.of_eq {σ σ' : Tm} (e : σ = σ') : Wkt σ σ' := fun _ _ _ h => e ▸ h
theorem AWP.wks {c : Code} {σ' : Tm} (H : AWP P Γ N c Q σ' h) (hw : Wkt σ σ') : AWP P Γ N c Q σ h := fun r G w a hr hI ht => H r G w a hr hI ⟨ht.1, fun i => hw G i _ (ht.2 i)⟩

def keep (L : List Nat) (σ : Tm) : Tm := L.map fun i => (i, lk σ i)

theorem lk_keep (L : List Nat) (σ : Tm) (i : Nat) : lk (keep L σ) i = lk σ i ∨ lk (keep L σ) i = .top := by
  induction L with
  | nil => exact .inr rfl
  | cons j L ih =>
    simp only [keep, List.map_cons, lk]
    split
    · rename_i e; subst e; exact .inl rfl
    · exact ih

theorem AWP.keep {c : Code} (L : List Nat) (H : AWP P Γ N c Q (keep L σ) h) : AWP P Γ N c Q σ h := H.weaken (lk_keep L σ)

/-! ### Regions in the order of the text -/
theorem TR.put {a : Act} (ht : TR N G σ a.tmps) {d : Option Tmp} {v : AV} {u : Value} (hd : ∀ x, d = some x → x < N) (hv : VR G v u) : TR N G (Abs.put d v σ) (a.put d u).tmps := by
  cases d with
  | none => exact ht
  | some x =>
    refine ⟨by simp [Act.put, ht.1], fun i => ?_⟩
    have hx := hd x rfl
    simp only [Abs.put, lk, Act.put]
    by_cases hi : i = x
    · subst hi
      rw [if_pos rfl]
      have : i < a.tmps.size := by rw [ht.1]; exact hx
      simpa [Array.getD_eq_getD_getElem?, this] using hv
    · rw [if_neg hi]
      have := ht.2 i
      rw [Array.getD_eq_getD_getElem?] at this ⊢
      rw [Array.getElem?_setIfInBounds, if_neg (fun e => hi e.symm)]
      exact this

theorem put_defers (a : Act) (d : Option Tmp) (u : Value) : (a.put d u).defers = a.defers := by
  cases d <;> rfl

theorem VR.undef (G : Gh) : VR G (.tuple []) undef := VR.tuple (cs := []) (vals := #[]) rfl (fun j c e => by simp at e)

theorem semAt_ok (ro : Option Nat) (ρ : Operand → Value) (o : Oper) (h : ∀ c, o.op ≠ .defer c) : Oper.semAt ro ρ o = execOp ρ o := Oper.semAt_eq ro ρ o h

theorem aop_defer {o : Oper} {K : AV → AH → Prop} (H : aop P Γ σ h o.op K) : ∀ c, o.op ≠ .defer c := fun c e => by
  rw [e] at H; exact H

/-- One operation's law. -/
theorem aOper0_ok {o : Oper} {K : AV → Tm → AH → Prop} (hI : Inv Γ G h w) {a : Act} (ht : TR N G σ a.tmps) (H : aOper0 P Γ o K σ h) {r : Option Nat} {next : Act → World → Prop} {Q' : Exit → Act → World → Prop}
    (hn : ∀ u v G' h' w', G.le G' → Inv Γ G' h' w' → VR G' v u → K v σ h' → next (a.put o.dst u) w') : o.wpIn (Fr r) 0 P a w next Q' := by
  refine ⟨fun _ _ => trivial, ?_⟩
  have plain : aop P Γ σ h o.op (fun v h' => K v σ h') → o.uponIn (Fr r) 0 P a next Q' ((o.semAt r a.eval).run P w) := fun H => by
    rw [semAt_ok r a.eval o (aop_defer H)]
    obtain ⟨n, u, w', G', av, h', h1, h2, h3, h4, h5, h6⟩ := aop_ok hI ht H
    rw [h1]
    rcases h2 with rfl | ⟨rfl, rfl⟩
    · exact hn u av G' h' w' h3 h4 h5 h6
    · exact hn undef av G' h' w' h3 h4 h5 h6
  show o.uponIn (Fr r) 0 P a next Q' ((o.semAt r a.eval).run P w)
  unfold aOper0 at H
  split at H
  · rename_i c ho
    split at H
    · rename_i f hf
      have hfv := ev_VR hI ht f
      have hargs := evs_VR hI ht c.args
      rw [semAt_ok r a.eval o (fun c' e => by rw [ho] at e; cases e)]
      split at H
      · rename_i g first cap hg
        rw [hg] at hfv
        generalize hvf : a.eval f = vf at hfv
        cases hfv with
        | func h1 h2 h3 h4 =>
          rename_i vfirst vcap
          obtain ⟨henter, hcall⟩ := H
          have hrun : (execOp a.eval o).run P w = .ok (.enter g ((vfirst ++ c.args.map a.eval) ++ vcap)) w := by
            simp [execOp, ho, resolve, hf, hvf, Deferred.ofValue, invoke, henter]
          rw [hrun, Oper.uponIn_enter]
          refine ⟨fun e => by simp [Fr] at e, ?_⟩
          refine CallsIn.mono (callsIn_Fr.2 (hcall G w _ hI (VRs.append (VRs.append ⟨h1, h3⟩ hargs) ⟨h2, h4⟩))) fun e w' hr => ?_
          obtain ⟨v, G', av, h', rfl, k1, k2, k3, k4⟩ := hr
          exact hn v av G' h' w' k1 k2 k3 k4
      · rename_i l hl
        rw [hl] at hfv
        generalize hvf : a.eval f = vf at hfv
        cases hfv with
        | @yield _ B hb =>
          obtain ⟨fn, tmps, assign, body, hy, hround⟩ := H G w _ _ hI hargs hb
          have hrun : (execOp a.eval o).run P w = .ok (.round B fn tmps assign body) w := by
            simp [execOp, ho, resolve, hf, hvf, Deferred.ofValue, invoke, hy]
          rw [hrun, Oper.uponIn_round]
          refine ⟨fun e => by simp [Fr] at e, RoundIn.mono (hround r) fun e w' hr => ?_⟩
          obtain ⟨v, G', av, h', rfl, k1, k2, k3, k4⟩ := hr
          exact hn v av G' h' w' k1 k2 k3 k4
      · exact H.elim
    · exact plain H
  · exact plain H

theorem aSpec_ok (hI : Inv Γ G h w) {a : Act} (ht : TR N G σ a.tmps) {o : Oper} {K : AV → AH → Prop} {p : Prop} (hp : aSpec P Γ σ h o.op K = some p) (H : p) : (∀ c, o.op ≠ .defer c) ∧ StepOK P Γ G w (execOp a.eval o) K := by
  have e := fun x => ev_VR (x := x) hI ht
  unfold aSpec at hp
  unfold execOp
  split at hp <;> rename_i ho <;> simp only [ho]
  · cases hp
    exact ⟨fun c e => by simp at e, .val (next_ok hI (e _) H)⟩
  · rename_i bop t x y _
    split at hp
    · rename_i hy
      cases hp
      refine ⟨fun c e => by simp at e, ?_⟩
      unfold isNilC at hy
      split at hy
      · exact .val (nilC_ok hI (e _) H)
      · cases hy
    · split at hp
      · rename_i hy
        cases hp
        refine ⟨fun c e => by simp at e, ?_⟩
        unfold isNilI at hy
        split at hy
        · exact .val (nilI_ok hI (e _) H)
        · cases hy
      · cases hp
  · split at hp
    · cases hp
      exact ⟨fun c e => by simp at e, .val (buildSliceM_ok hI ht H)⟩
    · cases hp
  · rename_i c
    split at hp
    · rename_i hc
      split at hp
      · cases hp
        refine ⟨fun c e => by simp at e, ?_⟩
        split at H
        · rename_i t u s x h1 h2
          have h1' : c.argTypes = #[t, u] := by rw [← Array.toArray_toList (xs := c.argTypes), h1]
          have h2' : c.args = #[s, x] := by rw [← Array.toArray_toList (xs := c.args), h2]
          simp only [resolve, hc, pure_bind, invoke, h1', h2']
          rw [show (#[s, x] : Array Operand).map a.eval = #[a.eval s, a.eval x] from by simp]
          exact .val (appendM_ok hI (e _) (e _) H)
        · exact H.elim
      · cases hp
    · cases hp
  · cases hp
/-- One operation's law. -/
theorem aOper_ok {o : Oper} {K : AV → Tm → AH → Prop} (hI : Inv Γ G h w) {a : Act} (ht : TR N G σ a.tmps) (H : aOper P Γ o K σ h) {r : Option Nat} {next : Act → World → Prop} {Q' : Exit → Act → World → Prop}
    (hn : ∀ u v G' h' w', G.le G' → Inv Γ G' h' w' → VR G' v u → K v σ h' → next (a.put o.dst u) w') : o.wpIn (Fr r) 0 P a w next Q' := by
  unfold aOper at H
  split at H
  · rename_i p hp
    unfold aInvk at hp
    split at hp
    · rename_i c hc
      split at hp
      · rename_i rv name hcc
        cases hp
        have hrv := ev_VR hI ht rv
        have hargs := evs_VR hI ht c.args
        refine ⟨fun _ _ => trivial, ?_⟩
        show o.uponIn (Fr r) 0 P a next Q' ((o.semAt r a.eval).run P w)
        rw [semAt_ok r a.eval o (fun c' e => by rw [hc] at e; cases e)]
        unfold aInvoke at H
        split at H
        · rename_i t v hv
          obtain ⟨f, x, hm, henter, hcall⟩ := H
          rw [hv] at hrv
          generalize hvr : a.eval rv = vr at hrv
          cases hrv with
          | @iface _ _ u hu =>
            obtain ⟨u', hrun, hx⟩ := hm G w u hI hu
            have hrun : (execOp a.eval o).run P w = .ok (.enter f (#[u'] ++ c.args.map a.eval)) w := by
              have e1 : (#[a.eval rv] ++ c.args.map a.eval)[0]? = some (Value.iface t u) := by rw [Array.getElem?_append_left (by simp)]; simp [hvr]
              have e2 : (#[a.eval rv] ++ c.args.map a.eval).extract 1 (#[a.eval rv] ++ c.args.map a.eval).size = c.args.map a.eval := by rw [Array.extract_append]; simp
              simp only [execOp, hc, resolve, hcc, pure_bind, invoke, e1, e2, callMethod]
              simp only [Sem.run_bind, run_program, Result.andThen_ok, hrun]
              exact henter _ _
            rw [hrun, Oper.uponIn_enter]
            refine ⟨fun e => by simp [Fr] at e, ?_⟩
            refine CallsIn.mono (callsIn_Fr.2 (hcall G w _ hI (VRs.cons hx hargs))) fun e w' hr => ?_
            obtain ⟨v, G', av, h', rfl, k1, k2, k3, k4⟩ := hr
            exact hn v av G' h' w' k1 k2 k3 k4
        · exact H.elim
      · cases hp
    · cases hp
  split at H
  · rename_i p hp
    obtain ⟨hd, n, u, w', G', av, h', h1, h2, h3, h4, h5, h6⟩ := aSpec_ok (P := P) (Γ := Γ) hI ht hp H
    refine ⟨fun _ _ => trivial, ?_⟩
    show o.uponIn (Fr r) 0 P a next Q' ((o.semAt r a.eval).run P w)
    rw [semAt_ok r a.eval o hd, h1]
    rcases h2 with rfl | ⟨rfl, rfl⟩
    · exact hn u av G' h' w' h3 h4 h5 h6
    · exact hn undef av G' h' w' h3 h4 h5 h6
  · exact aOper0_ok hI ht H hn

theorem yielded_ok {ops : Array Oper} {j : Nat} {t : Tmp} {b : Bool} {a : Act} (ht : TR N G σ a.tmps) (hj : (ops[j]?).bind (·.dst) = some t) (hb : lk σ t = .bool b) : yielded ops a.tmps j = some b := by
  have hv := ht.2 t
  rw [hb] at hv
  unfold yielded
  rw [hj]
  simp only [Option.bind_some]
  cases hx : a.tmps[t]? with
  | none =>
    rw [Array.getD_eq_getD_getElem?, hx] at hv
    generalize hu : (Option.getD none undef) = u at hv
    cases hv
    simp [undef] at hu
  | some x =>
    rw [Array.getD_eq_getD_getElem?, hx] at hv
    simp only [Option.getD_some] at hv
    cases hv
    rfl

theorem aBoolG_inv {v : AV} {want : Bool} {A B C : Prop} (H : aBoolG v want A B C) : (∃ b, v = .bool b ∧ (b = want → A) ∧ (b = !want → B)) ∨ (v = .tuple [] ∧ C) := by
  unfold aBoolG at H
  split at H
  · exact .inl ⟨_, rfl, H.1, H.2⟩
  · exact .inr ⟨rfl, H⟩
  · exact H.elim
theorem yielded_none {ops : Array Oper} {j : Nat} {t : Tmp} {a : Act} (ht : TR N G σ a.tmps) (hj : (ops[j]?).bind (·.dst) = some t) (hb : lk σ t = .tuple []) : yielded ops a.tmps j = none := by
  have hv := ht.2 t
  rw [hb] at hv
  unfold yielded
  rw [hj]
  simp only [Option.bind_some]
  cases hx : a.tmps[t]? with
  | none => rfl
  | some x =>
    rw [Array.getD_eq_getD_getElem?, hx] at hv
    simp only [Option.getD_some] at hv
    cases hv
    rfl
theorem yielded_gv {ops : Array Oper} {j : Nat} {t : Tmp} {b : Option Bool} {a : Act} (ht : TR N G σ a.tmps) (hj : (ops[j]?).bind (·.dst) = some t) (hb : gv (lk σ t) = some b) : yielded ops a.tmps j = b := by
  unfold gv at hb
  split at hb
  · rename_i c hc; cases hb; exact yielded_ok ht hj hc
  · rename_i hc; cases hb; exact yielded_none ht hj hc
  · cases hb

theorem dstAt_eq : ∀ (l : List Oper) (j : Nat), dstAt l j = (l[j]?).bind (·.dst)
  | [], j => by simp [dstAt]
  | o :: r, 0 => rfl
  | o :: r, j + 1 => by simpa [dstAt] using dstAt_eq r j

theorem TR.same {a : Act} (ht : TR N G σ a.tmps) {t : Tmp} {v : AV} (e : lk σ t = v) : TR N G ((t, v) :: σ) a.tmps := ⟨ht.1, fun i => by
  simp only [lk]
  split
  · rename_i hi; subst hi; rw [← e]; exact ht.2 i
  · exact ht.2 i⟩

theorem aBool_inv {v : AV} {want : Bool} {A B : Prop} (H : aBool v want A B) : ∃ b, v = .bool b ∧ (b = want → A) ∧ (b = !want → B) := by
  cases v <;> first | exact H.elim | exact ⟨_, rfl, H.1, H.2⟩

theorem aOps_ok {ops : Array Oper} {K : Tm → AH → Prop} {G0 : Gh} {ds : List Deferred} {r : Option Nat} : ∀ (l : List Nat) (σ : Tm) (h : AH) (G : Gh) (w : World) (a : Act), (∀ i ∈ l, ∀ o, ops[i]? = some o → ∀ x, o.dst = some x → x < N) →
    G0.le G → Inv Γ G h w → TR N G σ a.tmps → a.defers = ds → aOps P Γ ops.toList K (l.filterMap (ops[·]?)) σ h → wpOpsIn (Fr r) 0 P ops (Post Γ N G0 ds (thenA K fun _ _ _ => False)) l a w := by
  intro l
  induction l with
  | nil =>
    intro σ h G w a _ hle hI ht hd H
    exact ⟨G, σ, h, [], hle, hI, ht, by simpa using hd, fun D hD => by simp at hD, List.nodup_nil, H⟩
  | cons i rest ih =>
    intro σ h G w a hdst hle hI ht hd H
    rw [wpOpsIn_cons]
    unfold wpOpIn
    cases ho : ops[i]? with
    | none =>
      simp only [List.filterMap_cons, ho] at H
      exact ih σ h G w a (fun j hj => hdst j (List.mem_cons_of_mem _ hj)) hle hI ht hd H
    | some o =>
      simp only [List.filterMap_cons, ho] at H
      have hdo := hdst i (List.mem_cons_self ..) o ho
      have run : ∀ σ, TR N G σ a.tmps → aOper P Γ o (fun v σ h => aOps P Γ ops.toList K (rest.filterMap (ops[·]?)) (put o.dst v σ) h) σ h → o.wpIn (Fr r) 0 P a w (wpOpsIn (Fr r) 0 P ops (Post Γ N G0 ds (thenA K fun _ _ _ => False)) rest) (Post Γ N G0 ds (thenA K fun _ _ _ => False)) := fun σ ht H =>
        aOper_ok hI ht H fun u v G' h' w' h1 h2 h3 h4 => by
          exact ih _ h' G' w' _ (fun j hj => hdst j (List.mem_cons_of_mem _ hj)) (hle.trans h1) h2 ((ht.mono h1).put hdo h3) ((put_defers a o.dst u).trans hd) h4
      have pass : ∀ σ, TR N G σ a.tmps → aOps P Γ ops.toList K (rest.filterMap (ops[·]?)) (put o.dst (.tuple []) σ) h → (∀ f, o.about P w a.eval = some f → (Fr r).fn f) ∧ wpOpsIn (Fr r) 0 P ops (Post Γ N G0 ds (thenA K fun _ _ _ => False)) rest (a.put o.dst undef) w := fun σ ht H => by
        exact ⟨fun _ _ => trivial, ih _ h G w _ (fun j hj => hdst j (List.mem_cons_of_mem _ hj)) hle hI (ht.put hdo (VR.undef G)) ((put_defers a o.dst undef).trans hd) H⟩
      simp only [aOps] at H
      unfold Region.wanted
      split at H
      · rename_i hg
        simp only [hg, if_true]
        exact run σ ht H
      · rename_i j want hg
        simp only [hg]
        unfold aDst at H
        split at H
        · rename_i t hj
          rw [dstAt_eq, Array.getElem?_toList] at hj
          rcases aBoolG_inv H with ⟨b, hb, H1, H2⟩ | ⟨hb, H⟩
          · rw [yielded_ok ht hj hb]
            by_cases hbw : b = want
            · subst hbw; simp only [beq_self_eq_true, if_true]; exact run _ (ht.same hb) (H1 rfl)
            · have : (some b == some want) = false := by cases b <;> cases want <;> simp_all
              simp only [this, Bool.false_eq_true, if_false]
              have hbn : b = !want := by cases b <;> cases want <;> simp_all
              exact pass _ (ht.same (hb.trans (by rw [hbn]))) (H2 hbn)
          · rw [yielded_none ht hj hb]
            have : ((none : Option Bool) == some want) = false := rfl
            simp only [this, Bool.false_eq_true, if_false]
            exact pass _ ht H
        · exact H.elim

theorem filterMap_idx {α : Type} (l : List α) : (List.range l.length).filterMap (fun i => l[i]?) = l := by
  induction l with
  | nil => rfl
  | cons x l ih =>
    rw [List.length_cons, List.range_succ_eq_map, List.filterMap_cons, List.filterMap_map]
    simp only [List.getElem?_cons_zero]
    congr 1

theorem filterMap_range (ops : Array Oper) : (List.range ops.size).filterMap (ops[·]?) = ops.toList := by
  have := filterMap_idx ops.toList
  rw [Array.length_toList] at this
  simpa using this

/-- **A region whose order is fixed.** -/
theorem awp_region {id : Nat} {ops : Array Oper} (hd : dstOK N ops = true) (H : aOps P Γ ops.toList (fun σ h => Q .normal σ h) ops.toList σ h) : AWP P Γ N (.region id ops false) Q σ h := fun r G w a hr hI ht => by
  refine wpIn_mono (wpIn_region (Q := Post Γ N G a.defers (thenA (fun σ h => Q .normal σ h) fun _ _ _ => False)) ?_) fun e a' w' hp => ?_
  · refine aOps_ok (List.range ops.size) σ h G w a (fun i _ o ho x hx => ?_) (Gh.le.refl G) hI ht rfl (by rw [filterMap_range]; exact H)
    have := List.all_eq_true.1 hd o (by simpa using Array.mem_of_getElem? ho)
    rw [hx] at this
    exact Nat.le_of_ble_eq_true this
  · refine hp.mono fun e σ h hq => ?_
    cases e <;> first | exact hq | exact hq.elim

end
end Go.Abs

/- How a function's contract comes of the walk of its body; own objects that nobody can reach any more are dropped. It says nothing of any program; no conditions. -/
set_option linter.unusedSimpArgs false
set_option linter.unusedVariables false
namespace Go.Abs
open Go Go.RowKit

/-- A value that speaks of objects below n alone. -/
inductive RB (n : Nat) : AV → Prop
  | top : RB n .top
  | int (k : IntKind) (x : Int) : RB n (.int k x)
  | bool (b : Bool) : RB n (.bool b)
  | str (s : ByteArray) : RB n (.str s)
  | ptrNil : RB n (.ptr none)
  | ptr {i o : Nat} (h : i < n) : RB n (.ptr (some (i, o)))
  | eptr {cs : List AV} (h : ∀ (j : Nat) (c : AV), cs[j]? = some c → RB n c) : RB n (.eptr cs)
  | sl {rows : List AV} {own : Own} (h : ∀ (k : Nat) (r : AV) (j : Nat) (c : AV), rows[k]? = some r → r.cells[j]? = some c → RB n c) (ho : ∀ i, own = .arena i → i < n) : RB n (.sl rows own)
  | ms {i off len cap sz : Nat} (h : i < n) : RB n (.ms i off len cap sz)
  | mapNil : RB n (.map none)
  | map {i : Nat} (h : i < n) : RB n (.map (some i))
  | func {f : FuncId} {fs cs : List AV} (h1 : ∀ (j : Nat) (c : AV), fs[j]? = some c → RB n c) (h2 : ∀ (j : Nat) (c : AV), cs[j]? = some c → RB n c) : RB n (.func f fs cs)
  | yield {l : Nat} (h : l < n) : RB n (.yield l)
  | nilFunc : RB n .nilFunc
  | iface {t : TypeId} {a : AV} (h : RB n a) : RB n (.iface t a)
  | nilIface : RB n .nilIface
  | agg {cs : List AV} (h : ∀ (j : Nat) (c : AV), cs[j]? = some c → RB n c) : RB n (.agg cs)
  | tuple {cs : List AV} (h : ∀ (j : Nat) (c : AV), cs[j]? = some c → RB n c) : RB n (.tuple cs)

def RBs (n : Nat) (cs : List AV) : Prop := ∀ (j : Nat) (c : AV), cs[j]? = some c → RB n c

theorem RBs.nil (n : Nat) : RBs n [] := fun j c e => by simp at e
theorem RBs.cons {n : Nat} {a : AV} {l : List AV} (h : RB n a) (k : RBs n l) : RBs n (a :: l) := fun j c e => by
  cases j with
  | zero => simp at e; subst e; exact h
  | succ j => exact k j c (by simpa using e)
theorem RB.tuple' {n : Nat} {l : List AV} (h : RBs n l) : RB n (.tuple l) := .tuple h
theorem RB.agg' {n : Nat} {l : List AV} (h : RBs n l) : RB n (.agg l) := .agg h
theorem RBs.cells {n : Nat} {a : AV} (h : RB n a) : RBs n a.cells := by
  cases h with
  | agg h => exact h
  | top => exact .cons .top (.nil n)
  | int k x => exact .cons (.int k x) (.nil n)
  | bool b => exact .cons (.bool b) (.nil n)
  | str s => exact .cons (.str s) (.nil n)
  | ptrNil => exact .cons .ptrNil (.nil n)
  | ptr h => exact .cons (.ptr h) (.nil n)
  | eptr h => exact .cons (.eptr h) (.nil n)
  | sl h ho => exact .cons (.sl h ho) (.nil n)
  | ms h => exact .cons (.ms h) (.nil n)
  | mapNil => exact .cons .mapNil (.nil n)
  | map h => exact .cons (.map h) (.nil n)
  | func h1 h2 => exact .cons (.func h1 h2) (.nil n)
  | yield h => exact .cons (.yield h) (.nil n)
  | nilFunc => exact .cons .nilFunc (.nil n)
  | iface h => exact .cons (.iface h) (.nil n)
  | nilIface => exact .cons .nilIface (.nil n)
  | tuple h => exact .cons (.tuple h) (.nil n)
/-- A list slice of values that are below n. -/
theorem RB.sl' {n : Nat} {rows : List AV} (h : ∀ r ∈ rows, RB n r) : RB n (.sl rows .free) :=
  .sl (fun _ r j c e e' => RBs.cells (h r (List.mem_of_getElem? e)) j c e') (fun _ e => by cases e)
theorem RB.slFull {n : Nat} {rows : List AV} (h : ∀ r ∈ rows, RB n r) : RB n (.sl rows .full) :=
  .sl (fun _ r j c e e' => RBs.cells (h r (List.mem_of_getElem? e)) j c e') (fun _ e => by cases e)

/-- What a ghost speaks of lies below n. -/
structure Gh.upTo (G : Gh) (n : Nat) : Prop where
  ρ : ∀ i b, G.ρ i = some b → i < n
  ar : ∀ i r, G.ar i = some r → i < n

theorem VR.rb {G : Gh} {n : Nat} (hd : G.upTo n) {a : AV} {v : Value} (h : VR G a v) : RB n a := by
  induction h with
  | top v => exact .top
  | int k x => exact .int k x
  | bool b => exact .bool b
  | str s => exact .str s
  | ptrNil => exact .ptrNil
  | ptr h => exact .ptr (hd.ρ _ _ h)
  | eptr vals hF _ ih => exact .eptr ih
  | sl vals hcap hnil hsz hF _ hown ih => exact .sl ih (fun i e => by subst e; obtain ⟨r, hr, _⟩ := hown; exact hd.ar i r hr)
  | ms h => exact .ms (hd.ρ _ _ h)
  | mapNil => exact .mapNil
  | map h => exact .map (hd.ρ _ _ h)
  | func hf hc _ _ i1 i2 => exact .func i1 i2
  | yield h => exact .yield (hd.ρ _ _ h)
  | nilFunc => exact .nilFunc
  | iface t _ ih => exact .iface ih
  | nilIface => exact .nilIface
  | agg hl _ ih => exact .agg ih
  | tuple hl _ ih => exact .tuple ih

/-- The ghost of the objects below n. -/
def Gh.cut (G : Gh) (n : Nat) : Gh := { G with ρ := fun i => if i < n then G.ρ i else none, ar := fun i => if i < n then G.ar i else none }

theorem Gh.cut_ρ {G : Gh} {n i b : Nat} (h : G.ρ i = some b) (hi : i < n) : (G.cut n).ρ i = some b := by simp [Gh.cut, hi, h]
theorem Gh.of_cut_ρ {G : Gh} {n i b : Nat} (h : (G.cut n).ρ i = some b) : G.ρ i = some b ∧ i < n := by
  simp only [Gh.cut] at h
  split at h
  · rename_i hi; exact ⟨h, hi⟩
  · cases h
theorem Gh.of_cut_ar {G : Gh} {n i : Nat} {r : Ar} (h : (G.cut n).ar i = some r) : G.ar i = some r ∧ i < n := by
  simp only [Gh.cut] at h
  split at h
  · rename_i hi; exact ⟨h, hi⟩
  · cases h

theorem VR.cut {G : Gh} {n : Nat} {a : AV} {v : Value} (h : VR G a v) (hb : RB n a) : VR (G.cut n) a v := by
  induction h with
  | top v => exact .top v
  | int k x => exact .int k x
  | bool b => exact .bool b
  | str s => exact .str s
  | ptrNil => exact .ptrNil
  | ptr h => cases hb with
    | ptr hi => exact .ptr (Gh.cut_ρ h hi)
  | eptr vals hF _ ih => cases hb with
    | eptr hb => exact .eptr vals hF (fun j c e => ih j c e (hb j c e))
  | sl vals hcap hnil hsz hF _ hown ih => cases hb with
    | sl hb ho =>
      rename_i rows own a cap sz _
      refine .sl vals hcap hnil hsz hF (fun k r j c e e' => ih k r j c e e' (hb k r j c e e')) ?_
      cases own with
      | free => trivial
      | full => exact hown
      | arena i =>
        obtain ⟨r, h1, h2, h3⟩ := hown
        exact ⟨r, by simp [Gh.cut, ho i rfl, h1], h2, h3⟩
  | ms h => cases hb with
    | ms hi => exact .ms (Gh.cut_ρ h hi)
  | mapNil => exact .mapNil
  | map h => cases hb with
    | map hi => exact .map (Gh.cut_ρ h hi)
  | func hf hc _ _ i1 i2 => cases hb with
    | func b1 b2 => exact .func hf hc (fun j c e => i1 j c e (b1 j c e)) (fun j c e => i2 j c e (b2 j c e))
  | yield h => cases hb with
    | yield hi => exact .yield (Gh.cut_ρ h hi)
  | nilFunc => exact .nilFunc
  | iface t _ ih => cases hb with
    | iface hb => exact .iface t (ih hb)
  | nilIface => exact .nilIface
  | agg hl _ ih => cases hb with
    | agg hb => exact .agg hl (fun j c e => ih j c e (hb j c e))
  | tuple hl _ ih => cases hb with
    | tuple hb => exact .tuple hl (fun j c e => ih j c e (hb j c e))

/-- Objects that speak of objects below n alone. -/
def RBobj (n : Nat) : AObj → Prop
  | .row cs _ => RBs n cs
  | .map ents _ => ∀ (j : Nat) (e : Nat × AV × AV), ents[j]? = some e → RB n e.2.1 ∧ RB n e.2.2
  | .iter m _ _ => ∀ i, m = some i → i < n
  | .loop _ _ li => ∀ i, RB n (lk li.σ i)
  | _ => True

section
variable {P : Program} {Γ : Nat → Option (List AV)} {G : Gh} {h : AH} {w : World} {N : Nat} {σ : Tm} {Q : Exit → Tm → AH → Prop}

theorem Inv.upTo (hI : Inv Γ G h w) : G.upTo h.length := ⟨hI.domρ, hI.domA⟩

theorem Inv.rbobj (hI : Inv Γ G h w) {i : Nat} {ob : AObj} (e : h[i]? = some ob) : RBobj h.length ob := by
  have ho := hI.obj i ob e
  cases ob with
  | row cs T => obtain ⟨b, vals, _, _, hv⟩ := ho; exact fun j c e => by obtain ⟨v, _, k⟩ := hv.get e; exact k.rb hI.upTo
  | map ents clk =>
    obtain ⟨b, es, _, _, hl, hv⟩ := ho
    intro j e he
    obtain ⟨x, hx⟩ : ∃ x, es[j]? = some x := ⟨_, Array.getElem?_eq_getElem (by have := (List.getElem?_eq_some_iff.1 he).1; omega)⟩
    exact ⟨(hv j e x he hx).2.1.rb hI.upTo, (hv j e x he hx).2.2.rb hI.upTo⟩
  | iter m clk seen =>
    obtain ⟨b, mb, _, _, h3⟩ := ho
    intro i hi
    subst hi
    obtain ⟨c, _, hc⟩ := h3
    exact hI.domρ _ _ hc
  | loop st pend li => obtain ⟨b, l, _, _, _, _, _, _, _, ht, _⟩ := ho; exact fun i => (ht.2 i).rb hI.upTo
  | siter s pos => trivial
  | arena n => trivial
  | dead => trivial
  | hole => trivial
  | frozen => trivial

/-- **Own objects at the end of the heap are dropped.** -/
theorem Inv.drop {l : AH} (hI : Inv Γ G (h ++ l) w) (hob : ∀ (i : Nat) (ob : AObj), h[i]? = some ob → RBobj h.length ob) (hg : ∀ (g : Nat) (cs : List AV), Γ g = some cs → RB h.length (.eptr cs)) : Inv Γ (G.cut h.length) h w where
  below := hI.below
  drw := hI.drw
  fix := hI.fix
  obj := fun i ob e => by
    have hi := (List.getElem?_eq_some_iff.1 e).1
    have ho := hI.obj i ob (by rw [List.getElem?_append_left hi]; exact e)
    have hb := hob i ob e
    cases ob with
    | row cs T => obtain ⟨b, vals, h1, h2, hv⟩ := ho; exact ⟨b, vals, Gh.cut_ρ h1 hi, h2, hv.1, fun j c e => (hv.2 j c e).cut (hb j c e)⟩
    | map ents clk =>
      obtain ⟨b, es, h1, h2, hl, hv⟩ := ho
      exact ⟨b, es, Gh.cut_ρ h1 hi, h2, hl, fun j e x he hx => ⟨(hv j e x he hx).1, (hv j e x he hx).2.1.cut (hb j e he).1, (hv j e x he hx).2.2.cut (hb j e he).2⟩⟩
    | iter m clk seen =>
      obtain ⟨b, mb, h1, h2, h3⟩ := ho
      refine ⟨b, mb, Gh.cut_ρ h1 hi, h2, ?_⟩
      cases m with
      | none => exact h3
      | some j => obtain ⟨c, e1, e2⟩ := h3; exact ⟨c, e1, Gh.cut_ρ e2 (hb j rfl)⟩
    | siter s pos => obtain ⟨b, h1, h2⟩ := ho; exact ⟨b, Gh.cut_ρ h1 hi, h2⟩
    | arena n => obtain ⟨r, h1, h2⟩ := ho; exact ⟨r, by simp [Gh.cut, hi, h1], h2⟩
    | loop st pend li =>
      obtain ⟨b, lp, h1, h2, h3, h4, h5, h6, h7, h8, h9, h10⟩ := ho
      exact ⟨b, lp, Gh.cut_ρ h1 hi, h2, h3, h4, h5, h6, h7, ⟨h8.1, fun i => (h8.2 i).cut (hb i)⟩, h9, h10⟩
    | dead => trivial
    | hole => exact ⟨by simp [Gh.cut, ho.1], by simp [Gh.cut, ho.2]⟩
    | frozen => trivial
  domρ := fun i b e => (Gh.of_cut_ρ e).2
  domA := fun i r e => (Gh.of_cut_ar e).2
  inj := fun i j b e e' => hI.inj i j b (Gh.of_cut_ρ e).1 (Gh.of_cut_ρ e').1
  base := fun i b e => hI.base i b (Gh.of_cut_ρ e).1
  sep := fun i b o v hf e e' => hI.sep i b o v (fun e'' => hf (by rw [List.getElem?_append_left (Gh.of_cut_ρ e).2] at e''; exact e'')) (Gh.of_cut_ρ e).1 e'
  arB := fun i r b c sz T e e' => (hI.arB i r b c sz T (Gh.of_cut_ar e).1 e').mono (G' := G.cut h.length) rfl rfl (fun _ _ h => h) (fun j e => (Gh.of_cut_ρ e).1)
  arI := fun i j r r' b c sz T c' sz' T' e1 e2 e3 e4 => hI.arI i j r r' b c sz T c' sz' T' (Gh.of_cut_ar e1).1 (Gh.of_cut_ar e2).1 e3 e4
  lp := hI.lp
  lpB := hI.lpB
  dsI := hI.dsI
  glob := fun g cs e => (hI.glob g cs e).cut (hg g cs e)

theorem Gh.le_cut {G G' : Gh} (hle : G.le G') {n : Nat} (hd : G.upTo n) : G.le (G'.cut n) :=
  ⟨hle.w0, fun i b e => Gh.cut_ρ (hle.ρ i b e) (hd.ρ i b e), hle.F, fun i r e => by
    obtain ⟨r', h1, h2⟩ := hle.ar i r e
    exact ⟨r', by simp [Gh.cut, hd.ar i r e, h1], h2⟩, hle.lpD, hle.ds, hle.lpN⟩

theorem Inv.rbglob (hI : Inv Γ G h w) (g : Nat) (cs : List AV) (e : Γ g = some cs) : RB h.length (.eptr cs) := (hI.glob g cs e).rb hI.upTo

/-- **A contract that leaves the heap as it was**: what the callee has made is dropped. -/
theorem ACalls.drop {f : FuncId} {args : List AV} {R : AV → Prop} (H : ACalls P Γ f args h fun v h' => (∃ l, h' = h ++ l) ∧ RB h.length v ∧ R v) : ACalls P Γ f args h fun v h' => h' = h ∧ R v :=
  ⟨H.1, fun G w vs hI hv => (H.2 G w vs hI hv).mono fun e w' hr => by
    obtain ⟨v, G', av, h', rfl, h2, h3, h4, ⟨l, rfl⟩, h6, h7⟩ := hr
    exact ⟨v, G'.cut h.length, av, h, rfl, Gh.le_cut h2 hI.upTo, h3.drop (fun i ob e => hI.rbobj e) hI.rbglob, h4.cut h6, rfl, h7⟩⟩

/-! ### The end of a function -/
theorem VR.same {G G' : Gh} (hρ : G'.ρ = G.ρ) (hF : G'.F = G.F) (har : G'.ar = G.ar) {a : AV} {v : Value} (hv : VR G a v) : VR G' a v := by
  induction hv with
  | top v => exact .top v
  | int k x => exact .int k x
  | bool b => exact .bool b
  | str s => exact .str s
  | ptrNil => exact .ptrNil
  | ptr h => exact .ptr (by rw [hρ]; exact h)
  | eptr vals hF' _ ih => exact .eptr vals (by rw [hF]; exact hF') ih
  | sl vals hcap hnil hsz hF' _ hown ih =>
    rename_i rows own a cap sz _
    refine .sl vals hcap hnil hsz (by rw [hF]; exact hF') ih ?_
    cases own with
    | free => trivial
    | full => exact hown
    | arena i => obtain ⟨r, h1, h2⟩ := hown; exact ⟨r, by rw [har]; exact h1, h2⟩
  | ms h => exact .ms (by rw [hρ]; exact h)
  | mapNil => exact .mapNil
  | map h => exact .map (by rw [hρ]; exact h)
  | func hf hc _ _ i1 i2 => exact .func hf hc i1 i2
  | yield h => exact .yield (by rw [hρ]; exact h)
  | nilFunc => exact .nilFunc
  | iface t _ ih => exact .iface t ih
  | nilIface => exact .nilIface
  | agg hl _ ih => exact .agg hl ih
  | tuple hl _ ih => exact .tuple hl ih

theorem Inv.endD (hI : Inv Γ G h w) {D : Nat} (hD : G.ds D) (hN : ∀ b, G.lpD b ≠ some D) : Inv Γ { G with ds := fun x => G.ds x ∧ x ≠ D } h (w.putObj D (.deferred none)) := by
  have hd := (hI.dsI D hD).1
  have hoth : ∀ k, k ≠ D → (w.putObj D (.deferred none)).heap[k]? = w.heap[k]? := fun k hk => World.putObj_heap_other hk
  generalize hG' : ({ G with ds := fun x => G.ds x ∧ x ≠ D } : Gh) = G'
  have hF : G'.F = G.F := by subst hG'; rfl
  have hρ : G'.ρ = G.ρ := by subst hG'; rfl
  have har : G'.ar = G.ar := by subst hG'; rfl
  have hlp : G'.lpD = G.lpD := by subst hG'; rfl
  have hw0 : G'.w0 = G.w0 := by subst hG'; rfl
  have hds : ∀ x, G'.ds x ↔ G.ds x ∧ x ≠ D := fun x => by subst hG'; exact Iff.rfl
  have hVR : ∀ {a : AV} {v : Value}, VR G a v → VR G' a v := fun hv => hv.same hρ hF har
  have hne : ∀ {b : Nat} {o : Obj}, w.heap[b]? = some o → (∀ x, o ≠ .deferred x) → b ≠ D := fun hb ho e => by subst e; rw [hd] at hb; cases hb; exact ho _ rfl
  exact {
    drw := by rw [hw0]; exact hI.drw
    below := by rw [hw0]; exact hI.below.trans ⟨rfl, rfl, rfl, by simp [World.putObj], fun k hk => hoth k (fun e => by have := (hI.dsI D hD).2; omega)⟩
    fix := fun b o v e => by
      rw [hF] at e
      have hc := hI.fix b o v e
      refine (cell_eq (hoth b (fun e' => ?_))).trans hc
      subst e'
      simp [World.cell?, hd] at hc
    obj := fun i ob e => by
      have ho := hI.obj i ob e
      cases ob with
      | row cs T => obtain ⟨b, vals, h1, h2, hv⟩ := ho; exact ⟨b, vals, by rw [hρ]; exact h1, (hoth b (hne h2 (by simp))).trans h2, hv.1, fun j c e => hVR (hv.2 j c e)⟩
      | map ents clk =>
        obtain ⟨b, es, h1, h2, hl, hv⟩ := ho
        exact ⟨b, es, by rw [hρ]; exact h1, (hoth b (hne h2 (by simp))).trans h2, hl, fun j e x he hx => ⟨(hv j e x he hx).1, hVR (hv j e x he hx).2.1, hVR (hv j e x he hx).2.2⟩⟩
      | iter m clk seen =>
        obtain ⟨b, mb, h1, h2, h3⟩ := ho
        refine ⟨b, mb, by rw [hρ]; exact h1, (hoth b (hne h2 (by simp))).trans h2, ?_⟩
        cases m with
        | none => exact h3
        | some j => rw [hρ]; exact h3
      | siter s pos => obtain ⟨b, h1, h2⟩ := ho; exact ⟨b, by rw [hρ]; exact h1, (hoth b (hne h2 (by simp))).trans h2⟩
      | arena n => obtain ⟨r, h1, h2⟩ := ho; exact ⟨r, by rw [har]; exact h1, h2⟩
      | loop st pend li =>
        obtain ⟨b, lp, h1, h2, h3, h4, h5, h6, h7, h8, h9, h10⟩ := ho
        exact ⟨b, lp, by rw [hρ]; exact h1, (hoth b (hne h2 (by simp))).trans h2, h3, h4, h5, h6, h7, ⟨h8.1, fun i => hVR (h8.2 i)⟩, by rw [hlp]; exact h9, h10⟩
      | dead => trivial
      | hole => exact ⟨by rw [hρ]; exact ho.1, by rw [har]; exact ho.2⟩
      | frozen => trivial
    domρ := by rw [hρ]; exact hI.domρ
    domA := by rw [har]; exact hI.domA
    inj := by rw [hρ]; exact hI.inj
    base := by rw [hρ, hw0]; exact fun i b e => ⟨(hI.base i b e).1, by simpa [World.putObj] using (hI.base i b e).2⟩
    sep := by rw [hρ, hF]; exact hI.sep
    arB := fun i r b c sz T e e' => by
      rw [har] at e
      obtain ⟨cells, k1, _⟩ := (hI.arB i r b c sz T e e').blk
      exact (hI.arB i r b c sz T e e').mono hw0 (hoth b (hne k1 (by simp))) (fun o v h => by rwa [hF] at h) (fun j h => by rwa [hρ] at h)
    arI := by rw [har]; exact hI.arI
    lp := fun b D' e => by
      rw [hlp] at e
      obtain ⟨l, h1, h2, h3⟩ := hI.lp b D' e
      exact ⟨l, (hoth b (hne h1 (by simp))).trans h1, h2, (hds D').2 ⟨h3, fun e' => hN b (e' ▸ e)⟩⟩
    lpB := by rw [hlp, hw0]; exact hI.lpB
    dsI := fun D' e => by
      obtain ⟨h1, h2⟩ := (hds D').1 e
      rw [hw0]
      exact ⟨(hoth D' h2).trans (hI.dsI D' h1).1, (hI.dsI D' h1).2⟩
    glob := fun g cs e => hVR (hI.glob g cs e) }

theorem Gh.le_endD {G G' : Gh} (hle : G.le G') {D : Nat} (hD : ¬ G.ds D) : G.le { G' with ds := fun x => G'.ds x ∧ x ≠ D } :=
  ⟨hle.w0, hle.ρ, hle.F, hle.ar, hle.lpD, fun x e => ⟨hle.ds x e, fun e' => hD (e' ▸ e)⟩, hle.lpN⟩

/-- What a function hands back. -/
def aResL (P : Program) (σ : Tm) (h : AH) : List ResultVar → (List AV → Prop) → Prop
  | [], k => k []
  | .tmp t :: r, k => aResL P σ h r fun vs => k (lk σ t :: vs)
  | .cell a t :: r, k => aLoad P t (lk σ a) h fun v _ => aResL P σ h r fun vs => k (v :: vs)
def oneOf : List AV → AV
  | [v] => v
  | vs => .tuple vs
/-- How a function's body may end. -/
def endA (P : Program) (rs : List ResultVar) (R : AV → AH → Prop) (e : Exit) (σ : Tm) (h : AH) : Prop :=
  (e = .ret ∨ e = .normal) ∧ aResL P σ h rs fun vs => R (oneOf vs) h

/-- What one result reads as. -/
def readRes (t : Array Value) : ResultVar → Sem Value
  | .tmp x => pure (t.getD x undef)
  | .cell a ty => do loadVar ty (← asAddr (t.getD a undef))
theorem results_eq (fn : Func) (t : Array Value) : results fn t = (do let vs ← fn.results.mapM (readRes t); pure (if h : vs.size = 1 then vs[0] else .tuple vs)) := rfl

theorem resL_ok (hI : Inv Γ G h w) {t : Array Value} (ht : TR N G σ t) : ∀ (rs : List ResultVar) {k : List AV → Prop}, aResL P σ h rs k →
    ∃ us vs, (rs.mapM (readRes t)).run P w = .ok us w ∧ us.length = vs.length ∧ VRs G vs us.toArray ∧ k vs := by
  intro rs
  induction rs with
  | nil => intro k H; exact ⟨[], [], rfl, rfl, VRs.nil G, H⟩
  | cons x r ih =>
    intro k H
    cases x with
    | tmp x =>
      obtain ⟨us, vs, h1, h2, h3, h4⟩ := ih (k := fun vs => k (lk σ x :: vs)) H
      refine ⟨t.getD x undef :: us, lk σ x :: vs, by simp only [List.mapM_cons, readRes, Sem.run_bind, Sem.run_pure, Result.andThen_ok, h1], by simp [h2], ?_, h4⟩
      have := VRs.cons (ht.2 x) h3
      simpa using this
    | cell a ty =>
      simp only [aResL] at H
      obtain ⟨ad, u, av, e, r1, hv, H⟩ := loadAt_same (P := P) hI (ht.2 a) H
      obtain ⟨us, vs, h1, h2, h3, h4⟩ := ih (k := fun vs => k (av :: vs)) H
      refine ⟨u :: us, av :: vs, ?_, by simp [h2], ?_, h4⟩
      · have hr : (readRes t (.cell a ty)).run P w = .ok u w := by simp only [readRes, e, asAddr, pure_bind, r1]
        simp only [List.mapM_cons, Sem.run_bind, hr, Sem.run_pure, Result.andThen_ok, h1]
      have := VRs.cons hv h3
      simpa using this

theorem results_ok (hI : Inv Γ G h w) {t : Array Value} (ht : TR N G σ t) {fn : Func} {rs : List ResultVar} (hrs : fn.results = rs.toArray) {K : AV → Prop} (H : aResL P σ h rs fun vs => K (oneOf vs)) :
    ∃ u av, (results fn t).run P w = .ok u w ∧ VR G av u ∧ K av := by
  obtain ⟨us, vs, h1, h2, h3, h4⟩ := resL_ok (P := P) hI ht rs H
  refine ⟨if h : us.toArray.size = 1 then us.toArray[0] else .tuple us.toArray, oneOf vs, ?_, ?_, h4⟩
  · rw [results_eq, hrs, Array.mapM_eq_mapM_toList]
    simp only [Sem.run_bind, Sem.run_map, h1, Result.andThen_ok, Sem.run_pure]
  · match vs, us, h2, h3 with
    | [], [], _, h3 => exact .tuple h3.1 h3.2
    | [v], [u], _, h3 =>
      obtain ⟨u', e1, e2⟩ := h3.get (j := 0) rfl
      simp at e1; subst e1
      simpa [oneOf] using e2
    | v :: v' :: vs, u :: u' :: us, _, h3 =>
      simp only [oneOf, List.size_toArray, List.length_cons]
      rw [dif_neg (by omega)]
      exact .tuple h3.1 h3.2

/-- The arguments as temporaries. -/
def argsT : Nat → List AV → Tm
  | _, [] => []
  | i, a :: r => (i, a) :: argsT (i + 1) r

theorem lk_argsT : ∀ (as : List AV) (i j : Nat), lk (argsT i as) j = if i ≤ j then (as[j - i]?).getD .top else .top
  | [], i, j => by simp [argsT, lk]
  | a :: r, i, j => by
    simp only [argsT, lk]
    by_cases e : j = i
    · subst e; simp
    · rw [if_neg e, lk_argsT r (i + 1) j]
      by_cases h : i ≤ j
      · rw [if_pos h, if_pos (by omega), show j - i = (j - (i + 1)) + 1 from by omega, List.getElem?_cons_succ]
      · rw [if_neg h, if_neg (by omega)]

theorem args_TR {as : List AV} {vs : Array Value} (hv : VRs G as vs) (hN : as.length ≤ N) : TR N G (argsT 0 as) (vs ++ Array.replicate (N - vs.size) undef) := by
  have hs := hv.1
  refine ⟨by simp; omega, fun i => ?_⟩
  rw [lk_argsT, if_pos (Nat.zero_le _), Nat.sub_zero]
  cases e : as[i]? with
  | none => exact .top _
  | some c =>
    obtain ⟨u, h1, h2⟩ := hv.get e
    have hi : i < vs.size := (Array.getElem?_eq_some_iff.1 h1).1
    simp only [Option.getD_some]
    rw [Array.getD_eq_getD_getElem?, Array.getElem?_append_left hi, h1]
    exact h2

theorem enters_ok {f : FuncId} {fn : Func} {c : Code} (hf : P.funcs[f]? = some fn) (hb : fn.body = some c) (hn : (fn.name == "runtime.NumGoroutine") = false) (vs : Array Value) (w : World) : (callFunc f vs).run P w = .ok (.enter f vs) w := by
  have hn' : ¬ fn.name = "runtime.NumGoroutine" := by simpa using hn
  simp [callFunc, hf, hb, hn']

theorem leaves_marks {fn : Func} {t : Array Value} {G0 : Gh} {R : AV → AH → Prop} {rs : List ResultVar} (hrs : fn.results = rs.toArray) : ∀ (Ds : List Nat) (G : Gh) (h : AH) (w : World), G0.le G → Inv Γ G h w → TR N G σ t → (∀ D ∈ Ds, ¬ G0.ds D ∧ G.ds D ∧ ∀ b, G.lpD b ≠ some D) → Ds.Nodup →
    aResL P σ h rs (fun vs => R (oneOf vs) h) → LeavesInM (Fr none) 0 P fn t (Res Γ G0 R) (Ds.map mark) .returning w := by
  intro Ds
  induction Ds with
  | nil =>
    intro G h w hle hI ht _ _ H
    obtain ⟨u, av, h1, h2, h3⟩ := results_ok (P := P) hI ht hrs (K := fun v => R v h) H
    exact ⟨u, h1, u, G, av, h, rfl, hle, hI, h2, h3⟩
  | cons D Ds ih =>
    intro G h w hle hI ht hD hnd H
    obtain ⟨d1, d2, d3⟩ := hD D (List.mem_cons_self ..)
    refine ⟨by simp, .inl ⟨D, _, rfl, run_takeDeferred (hI.dsI D d2).1, ?_⟩⟩
    have hle' := Gh.le_endD hle d1
    have hI' := hI.endD d2 d3
    rw [List.nodup_cons] at hnd
    refine ih _ h _ hle' hI' ⟨ht.1, fun i => ?_⟩ (fun D' hD' => ?_) hnd.2 H
    · refine VR.same (G := G) ?_ ?_ ?_ (ht.2 i) <;> rfl
    · obtain ⟨e1, e2, e3⟩ := hD D' (List.mem_cons_of_mem _ hD')
      exact ⟨e1, ⟨e2, fun e => hnd.1 (e ▸ hD')⟩, e3⟩

/-- **A function's contract from the walk of its body.** -/
theorem acalls_of_awp {f : FuncId} {fn : Func} {c : Code} {args : List AV} {rs : List ResultVar} {R : AV → AH → Prop} (hf : P.funcs[f]? = some fn) (hb : fn.body = some c) (hn : (fn.name == "runtime.NumGoroutine") = false)
    (hN : Nat.ble args.length fn.ntmps = true) (hrs : fn.results = rs.toArray) (H : AWP P Γ fn.ntmps c (endA P rs R) (argsT 0 args) h) : ACalls P Γ f args h R := by
  refine ⟨fun vs w => enters_ok hf hb hn vs w, fun G w vs hI hv => ?_⟩
  refine (callsIn_Fr (r := none) (n := 0)).1 (callsIn_of_wp_marks hf hb trivial ?_)
  refine wpIn_mono (H none G w _ (fun l e => by cases e) hI (args_TR hv (Nat.le_of_ble_eq_true hN))) fun e a' w' hp => ?_
  obtain ⟨G', σ', h', Ds, h1, h2, h3, h4, h5, h6, h7, h8⟩ := hp
  simp only [List.append_nil] at h4
  rcases h7 with rfl | rfl
  · show LeavesInM (Fr none) 0 P fn a'.tmps (Res Γ G R) a'.defers .returning w'
    rw [h4]
    exact leaves_marks hrs Ds G' h' w' h1 h2 h3 h5 h6 h8
  · show LeavesInM (Fr none) 0 P fn a'.tmps (Res Γ G R) a'.defers .returning w'
    rw [h4]
    exact leaves_marks hrs Ds G' h' w' h1 h2 h3 h5 h6 h8
end
end Go.Abs
