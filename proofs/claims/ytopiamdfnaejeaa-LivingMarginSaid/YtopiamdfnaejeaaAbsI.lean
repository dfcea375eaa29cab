/- The laws of a walk over abstract values: regions in the order of the text, sequence, branches, blocks, loops, calls. It says nothing of any program; no conditions. -/
import Derived.Test.YtopiamdfnaejeaaAbsH
set_option linter.unusedSimpArgs false
set_option linter.unusedVariables false
namespace Go.Abs
open Go Go.RowKit

/-- A fence that lets all in. -/
def Fr (r : Option Nat) : Fence := { fn := fun _ => True, depth := none, alive := false, round := r }

theorem callsIn_Fr {r : Option Nat} {n : Nat} {P : Program} {f : FuncId} {args : Array Value} {w : World} {R : Ending → World → Prop} : CallsIn (Fr r) n P f args w R ↔ Calls P f args w R :=
  (show CallsIn (Fr r) n P f args w R ↔ CallsIn Fence.wide n P f args w R from Iff.rfl).trans callsIn_wide

/-- What a call leaves, seen abstractly. -/
def Res (Γ : Nat → Option (List AV)) (G : Gh) (R : AV → AH → Prop) (e : Ending) (w' : World) : Prop :=
  ∃ v G' av h', e = .returned v ∧ G.le G' ∧ Inv Γ G' h' w' ∧ VR G' av v ∧ R av h'

/-- A function's contract. -/
def ACalls (P : Program) (Γ : Nat → Option (List AV)) (f : FuncId) (args : List AV) (h : AH) (R : AV → AH → Prop) : Prop :=
  (∀ vs w, (callFunc f vs).run P w = .ok (.enter f vs) w) ∧
  ∀ (G : Gh) (w : World) (vs : Array Value), Inv Γ G h w → VRs G args vs → Calls P f vs w (Res Γ G R)

/-- A call of a loop's own function 'yield'. -/
def AYield (P : Program) (Γ : Nat → Option (List AV)) (l : Nat) (args : List AV) (h : AH) (R : AV → AH → Prop) : Prop :=
  ∀ (G : Gh) (w : World) (vs : Array Value) (b : Nat), Inv Γ G h w → VRs G args vs → G.ρ l = some b →
    ∃ fn tmps assign body, (Instr.yield b vs).run P w = .ok (.round b fn tmps assign body) w ∧ ∀ r, RoundIn (Fr r) 0 P b fn tmps assign body w (Res Γ G R)

def mark (D : Nat) : Deferred := { target := .collected D, args := #[] }

/-- The ways in which a piece of code is left. -/
def Post (Γ : Nat → Option (List AV)) (N : Nat) (G : Gh) (ds : List Deferred) (Q : Exit → Tm → AH → Prop) (e : Exit) (a' : Act) (w' : World) : Prop :=
  ∃ (G' : Gh) (σ' : Tm) (h' : AH) (Ds : List Nat), G.le G' ∧ Inv Γ G' h' w' ∧ TR N G' σ' a'.tmps ∧ a'.defers = Ds.map mark ++ ds ∧ (∀ D ∈ Ds, ¬ G.ds D ∧ G'.ds D ∧ ∀ b, G'.lpD b ≠ some D) ∧ Ds.Nodup ∧ Q e σ' h'

/-- A piece of code, seen abstractly. -/
def AWP (P : Program) (Γ : Nat → Option (List AV)) (N : Nat) (c : Code) (Q : Exit → Tm → AH → Prop) (σ : Tm) (h : AH) : Prop :=
  ∀ (r : Option Nat) (G : Gh) (w : World) (a : Act), (∀ l, r = some l → ∃ D, G.lpD l = some D) → Inv Γ G h w → TR N G σ a.tmps → c.wpIn (Fr r) 0 P (Post Γ N G a.defers Q) a w

def put (d : Option Tmp) (v : AV) (σ : Tm) : Tm :=
  match d with
  | some d => (d, v) :: σ
  | none => σ

/-- The rest of a region, behind a call. -/
def aNext (K : AV → Tm → AH → Prop) (σ : Tm) (v : AV) (h : AH) : Prop := K v σ h

/-- One operation of a region, its outcome being fixed. -/
def aOper0 (P : Program) (Γ : Nat → Option (List AV)) (o : Oper) (K : AV → Tm → AH → Prop) (σ : Tm) (h : AH) : Prop :=
  match o.op with
  | .call c => (match c.callee with
    | .value f => (match ev Γ σ f with
      | .func g first cap => ACalls P Γ g (first ++ c.args.toList.map (ev Γ σ) ++ cap) h (aNext K σ)
      | .yield l => AYield P Γ l (c.args.toList.map (ev Γ σ)) h (aNext K σ)
      | _ => False)
    | _ => aop P Γ σ h o.op fun v h' => K v σ h')
  | op => aop P Γ σ h op fun v h' => K v σ h'

def isMk : AV → Bool
  | .tuple [] => true
  | _ => false
/-- Arrays that are made here are of one's own (a mark among the temporaries that no frame has). -/
def mF (σ : Tm) : Bool := isMk (lk σ 1000000)
/-- Operations whose outcome is open, or that make arrays of one's own. -/
def aSpec (P : Program) (Γ : Nat → Option (List AV)) (σ : Tm) (h : AH) (op : Op) (K : AV → AH → Prop) : Option Prop :=
  match op with
  | .next it false => some (aNxt (ev Γ σ it) h K)
  | .binOp op t x y _ => if isNilC y then some (aNilC P t op (ev Γ σ x) fun v => K v h) else none
  | .buildSlice t len parts => if mF σ then some (aBuildSliceM P t len (evParts Γ σ parts) h K) else none
  | .call c => (match c.callee with
    | .builtin .append => if mF σ then some (match c.argTypes.toList, c.args.toList with
      | [t, u], [s, x] => aAppendM P t u (ev Γ σ s) (ev Γ σ x) h K
      | _, _ => False) else none
    | _ => none)
  | _ => none
/-- One operation of a region. -/
def aOper (P : Program) (Γ : Nat → Option (List AV)) (o : Oper) (K : AV → Tm → AH → Prop) (σ : Tm) (h : AH) : Prop :=
  match aSpec P Γ σ h o.op (fun v h' => K v σ h') with
  | some p => p
  | none => aOper0 P Γ o K σ h

/-- A guard that is not yet decided. -/
def aGuard (b want : Bool) (A B : Prop) : Prop := (b = want → A) ∧ (b = !want → B)
/-- The bool that a guard asks for. -/
def aBool (v : AV) (want : Bool) (A B : Prop) : Prop := match v with
  | .bool b => aGuard b want A B
  | _ => False
/-- The bool that a guard asks for; or nothing, where what it asks for was not done. -/
def aBoolG (v : AV) (want : Bool) (A B C : Prop) : Prop := match v with
  | .bool b => aGuard b want A B
  | .tuple [] => C
  | _ => False
def gv : AV → Option (Option Bool)
  | .bool b => some (some b)
  | .tuple [] => some none
  | _ => none
/-- The temporary that a guard asks for. -/
def aDst (d : Option Tmp) (A : Tmp → Prop) : Prop := match d with
  | some t => A t
  | none => False
def dstAt : List Oper → Nat → Option Tmp
  | [], _ => none
  | o :: _, 0 => o.dst
  | _ :: r, n + 1 => dstAt r n

/-- Operations in the order of the text. -/
def aOps (P : Program) (Γ : Nat → Option (List AV)) (ops : List Oper) (K : Tm → AH → Prop) : List Oper → Tm → AH → Prop
  | [], σ, h => K σ h
  | o :: rest, σ, h =>
    match o.guard with
    | none => aOper P Γ o (fun v σ h => aOps P Γ ops K rest (put o.dst v σ) h) σ h
    | some (j, want) => aDst (dstAt ops j) fun t => aBoolG (lk σ t) want (aOper P Γ o (fun v σ h => aOps P Γ ops K rest (put o.dst v σ) h) ((t, .bool want) :: σ) h)
        (aOps P Γ ops K rest (put o.dst (.tuple []) ((t, .bool (!want)) :: σ)) h) (aOps P Γ ops K rest (put o.dst (.tuple []) σ) h)

/-- All places that a region writes lie in the frame. -/
def dstOK (N : Nat) (ops : Array Oper) : Bool := ops.toList.all fun o => match o.dst with
  | some d => Nat.blt d N
  | none => true

section
variable {P : Program} {Γ : Nat → Option (List AV)} {G : Gh} {h : AH} {w : World} {N : Nat} {σ : Tm} {Q : Exit → Tm → AH → Prop}

theorem Res.mono {R R' : AV → AH → Prop} (hR : ∀ v h, R v h → R' v h) {G0 : Gh} (hle : G0.le G) {e : Ending} (H : Res Γ G R e w) : Res Γ G0 R' e w := by
  obtain ⟨v, G', av, h', h1, h2, h3, h4, h5⟩ := H
  exact ⟨v, G', av, h', h1, hle.trans h2, h3, h4, hR _ _ h5⟩

theorem ACalls.mono {f : FuncId} {args : List AV} {R R' : AV → AH → Prop} (H : ACalls P Γ f args h R) (hR : ∀ v h, R v h → R' v h) : ACalls P Γ f args h R' :=
  ⟨H.1, fun G w vs hI hv => (H.2 G w vs hI hv).mono fun _ _ => Res.mono hR (Gh.le.refl G)⟩

theorem AYield.mono {l : Nat} {args : List AV} {R R' : AV → AH → Prop} (H : AYield P Γ l args h R) (hR : ∀ v h, R v h → R' v h) : AYield P Γ l args h R' := fun G w vs b hI hv hb => by
  obtain ⟨fn, tmps, assign, body, h1, h2⟩ := H G w vs b hI hv hb
  exact ⟨fn, tmps, assign, body, h1, fun r => (h2 r).mono fun _ _ => Res.mono hR (Gh.le.refl G)⟩

theorem Post.mono {ds : List Deferred} {Q' : Exit → Tm → AH → Prop} (hQ : ∀ e σ h, Q e σ h → Q' e σ h) {e : Exit} {a : Act} (H : Post Γ N G ds Q e a w) : Post Γ N G ds Q' e a w := by
  obtain ⟨G', σ', h', Ds, h1, h2, h3, h4, h5, h6, h7⟩ := H
  exact ⟨G', σ', h', Ds, h1, h2, h3, h4, h5, h6, hQ _ _ _ h7⟩

theorem AWP.mono {c : Code} {Q' : Exit → Tm → AH → Prop} (H : AWP P Γ N c Q σ h) (hQ : ∀ e σ h, Q e σ h → Q' e σ h) : AWP P Γ N c Q' σ h :=
  fun r G w a h1 h2 h3 => wpIn_mono (H r G w a h1 h2 h3) fun _ _ _ => Post.mono hQ

theorem Post.now (hI : Inv Γ G h w) {a : Act} (ht : TR N G σ a.tmps) {e : Exit} (hq : Q e σ h) : Post Γ N G a.defers Q e a w :=
  ⟨G, σ, h, [], Gh.le.refl G, hI, ht, rfl, fun D hD => by simp at hD, List.nodup_nil, hq⟩

theorem Post.trans {G1 : Gh} {ds : List Deferred} {Ds : List Nat} (hle : G.le G1) (hDs : ∀ D ∈ Ds, ¬ G.ds D ∧ G1.ds D ∧ ∀ b, G1.lpD b ≠ some D) (hnd : Ds.Nodup) {e : Exit} {a : Act} (H : Post Γ N G1 (Ds.map mark ++ ds) Q e a w) : Post Γ N G ds Q e a w := by
  obtain ⟨G', σ', h', Ds', h1, h2, h3, h4, h5, h6, h7⟩ := H
  refine ⟨G', σ', h', Ds' ++ Ds, hle.trans h1, h2, h3, by rw [h4]; simp, fun D hD => ?_, ?_, h7⟩
  · rcases List.mem_append.1 hD with hD | hD
    · exact ⟨fun k => (h5 D hD).1 (hle.ds D k), (h5 D hD).2⟩
    · exact ⟨(hDs D hD).1, h1.ds D (hDs D hD).2.1, fun b e => by
        obtain ⟨b', e'⟩ := h1.lpN b D e (hDs D hD).2.1
        exact (hDs D hD).2.2 b' e'⟩
  · rw [List.nodup_append]
    refine ⟨h6, hnd, fun x hx y hy e => ?_⟩
    subst e
    exact (h5 x hx).1 (hDs x hy).2.1

theorem awp_skip (H : Q .normal σ h) : AWP P Γ N .skip Q σ h := fun _ _ _ _ _ hI ht => wpIn_skip (Post.now hI ht H)
theorem awp_label {l : Nat} (H : Q .normal σ h) : AWP P Γ N (.label l) Q σ h := fun _ _ _ _ _ hI ht => wpIn_label (Post.now hI ht H)
theorem awp_exit {id : Nat} (H : Q (.exit id) σ h) : AWP P Γ N (.exit id) Q σ h := fun _ _ _ _ _ hI ht => wpIn_exit (Post.now hI ht H)
theorem awp_goto {l : Nat} (H : Q (.goto l) σ h) : AWP P Γ N (.goto l) Q σ h := fun _ _ _ _ _ hI ht => wpIn_goto (Post.now hI ht H)
theorem awp_ret (H : Q .ret σ h) : AWP P Γ N .ret Q σ h := fun _ _ _ _ _ hI ht => wpIn_ret (Post.now hI ht H)

/-- What comes next, where a piece of code runs off its end. -/
def thenA (K : Tm → AH → Prop) (Q : Exit → Tm → AH → Prop) : Exit → Tm → AH → Prop
  | .normal, σ, h => K σ h
  | e, σ, h => Q e σ h

theorem AWP.after {c : Code} (H : AWP P Γ N c Q σ h) {r : Option Nat} {G0 : Gh} {ds : List Deferred} {Ds : List Nat} (hr : ∀ l, r = some l → ∃ D, G0.lpD l = some D) (hle : G0.le G)
    (hDs : ∀ D ∈ Ds, ¬ G0.ds D ∧ G.ds D ∧ ∀ b, G.lpD b ≠ some D) (hnd : Ds.Nodup) (hI : Inv Γ G h w) {a : Act} (ht : TR N G σ a.tmps) (hd : a.defers = Ds.map mark ++ ds) : c.wpIn (Fr r) 0 P (Post Γ N G0 ds Q) a w :=
  wpIn_mono (H r G w a (fun l e => by obtain ⟨D, k⟩ := hr l e; exact ⟨D, hle.lpD _ _ k⟩) hI ht) fun e a' w' hp => by rw [hd] at hp; exact hp.trans hle hDs hnd

theorem awp_seq {x y : Code} (H : AWP P Γ N x (thenA (AWP P Γ N y Q) Q) σ h) : AWP P Γ N (.seq x y) Q σ h := fun r G w a hr hI ht => by
  refine wpIn_seq (wpIn_mono (H r G w a hr hI ht) fun e a' w' hp => ?_)
  cases e with
  | normal =>
    obtain ⟨G', σ', h', Ds, h1, h2, h3, h4, h5, h6, h7⟩ := hp
    exact AWP.after h7 hr h1 h5 h6 h2 h3 h4
  | _ => exact hp

theorem awp_seq_k {x y : Code} (H : ∀ K : Tm → AH → Prop, (∀ σ h, AWP P Γ N y Q σ h → K σ h) → AWP P Γ N x (thenA K Q) σ h) : AWP P Γ N (.seq x y) Q σ h :=
  awp_seq (H _ fun _ _ h => h)

theorem awp_cond {c : Operand} {x y : Code} {b : Bool} (hc : ev Γ σ c = .bool b) (h1 : b = true → AWP P Γ N x Q σ h) (h2 : b = false → AWP P Γ N y Q σ h) : AWP P Γ N (.cond c x y) Q σ h := fun r G w a hr hI ht => by
  have hv := ev_VR hI ht c
  rw [hc] at hv
  have hb : a.eval c = .bool b := by
    generalize a.eval c = vc at hv
    cases hv; rfl
  cases b with
  | true => exact wpIn_cond_true hb (h1 rfl r G w a hr hI ht)
  | false => exact wpIn_cond_false hb (h2 rfl r G w a hr hI ht)

/-- A block takes up the exits that name it. -/
def blockA (id : Nat) (Q : Exit → Tm → AH → Prop) : Exit → Tm → AH → Prop
  | .exit id', σ, h => if id' = id then Q .normal σ h else Q (.exit id') σ h
  | e, σ, h => Q e σ h

theorem awp_block {id : Nat} {c : Code} (H : AWP P Γ N c (blockA id Q) σ h) : AWP P Γ N (.block id c) Q σ h := fun r G w a hr hI ht => by
  refine wpIn_block (wpIn_mono (H r G w a hr hI ht) fun e a' w' hp => ?_)
  cases e with
  | exit id' =>
    show if id' = id then _ else _
    obtain ⟨G', σ', h', Ds, h1, h2, h3, h4, h5, h6, h7⟩ := hp
    simp only [blockA] at h7
    split
    · rename_i he; rw [if_pos he] at h7; exact ⟨G', σ', h', Ds, h1, h2, h3, h4, h5, h6, h7⟩
    · rename_i he; rw [if_neg he] at h7; exact ⟨G', σ', h', Ds, h1, h2, h3, h4, h5, h6, h7⟩
  | _ => exact hp

/-- How a loop's round is left: off its end: the invariant, at a lesser number. -/
def roundA (I : Nat → Tm → AH → Prop) (n : Nat) (Q : Exit → Tm → AH → Prop) : Exit → Tm → AH → Prop
  | .normal, σ, h => ∃ m, m < n ∧ I m σ h
  | e, σ, h => Q e σ h

theorem wpIn_loop_idx {F : Fence} {m : Nat} {c : Code} {Q : Exit → Act → World → Prop} {a : Act} {w : World} (I : Nat → Act → World → Prop) {n : Nat} (h₀ : I n a w)
    (round : ∀ n a w, I n a w → c.wpIn F m P (Exit.then (fun a' w' => ∃ j, j < n ∧ I j a' w') Q) a w) : (Code.loop c).wpIn F m P Q a w := by
  intro b k cs hro hb hr
  have key : ∀ n a w, I n a w →
      ∃ e a' w', Q e a' w' ∧ ArrivesIn (Machine.fenced P F) P (lone (b.atR a (.code c :: .inLoop c :: k)) cs w) b k cs e a' w' := by
    intro n
    induction n using Nat.strongRecOn with
    | _ n ih =>
      intro a w hI
      obtain ⟨e, a₁, w₁, hq, harr⟩ := round n a w hI b (.inLoop c :: k) cs hro hb hr
      cases e with
      | normal =>
        obtain ⟨j, hlt, hI₁⟩ := hq
        obtain ⟨e₂, a₂, w₂, hq₂, harr₂⟩ := ih j hlt a₁ w₁ hI₁
        exact ⟨e₂, a₂, w₂, hq₂, .of_steps (StepsIn.trans harr (.one (fenced_calm hb hr rfl) stepR_inLoop)) harr₂⟩
      | exit id => exact ⟨_, a₁, w₁, hq, .pass (x := .inLoop c) rfl (fun _ _ => .inl (by simp)) harr⟩
      | goto l => exact ⟨_, a₁, w₁, hq, .pass (x := .inLoop c) rfl (fun _ _ => .inl (by simp)) harr⟩
      | ret => exact ⟨_, a₁, w₁, hq, .pass (x := .inLoop c) rfl (fun _ _ => .inl (by simp)) harr⟩
      | panic ch => exact ⟨_, a₁, w₁, hq, .pass (x := .inLoop c) rfl (fun _ _ => .inl (by simp)) harr⟩
      | outgrown => exact ⟨_, a₁, w₁, hq, .pass (x := .inLoop c) rfl (fun _ _ => .inl (by simp)) harr⟩
  obtain ⟨e, a', w', hq, harr⟩ := key n a w h₀
  exact ⟨e, a', w', hq, .of_steps (.one (fenced_calm hb hr rfl) stepR_loop) harr⟩

theorem awp_loop {c : Code} (I : Nat → Tm → AH → Prop) {n : Nat} (h0 : I n σ h) (H : ∀ n σ h, I n σ h → AWP P Γ N c (roundA I n Q) σ h) : AWP P Γ N (.loop c) Q σ h := fun r G w a hr hI ht => by
  refine wpIn_loop_idx (fun n a' w' => Post Γ N G a.defers (fun _ σ h => I n σ h) .normal a' w') (Post.now hI ht h0) fun n a' w' hp => ?_
  obtain ⟨G', σ', h', Ds, h1, h2, h3, h4, h5, h6, h7⟩ := hp
  refine wpIn_mono (AWP.after (H n σ' h' h7) hr h1 h5 h6 h2 h3 h4) fun e a'' w'' hp => ?_
  cases e with
  | normal =>
    obtain ⟨G', σ', h', Ds, h1, h2, h3, h4, h5, h6, m, hm, h7⟩ := hp
    exact ⟨m, hm, G', σ', h', Ds, h1, h2, h3, h4, h5, h6, h7⟩
  | _ => exact hp

/-- Forgetting temporaries. -/
theorem AWP.weaken {c : Code} {σ' : Tm} (H : AWP P Γ N c Q σ' h) (hw : ∀ i, lk σ' i = lk σ i ∨ lk σ' i = .top) : AWP P Γ N c Q σ h := fun r G w a hr hI ht =>
  H r G w a hr hI ⟨ht.1, fun i => by
    rcases hw i with e | e
    · rw [e]; exact ht.2 i
    · rw [e]; exact .top _⟩

/-- Temporaries of which less is known. -/
def Wkt (σ σ' : Tm) : Prop := ∀ (G : Gh) (i : Nat) (v : Value), VR G (lk σ i) v → VR G (lk σ' i) v
theorem Wkt.of_eq {σ σ' : Tm} (e : σ = σ') : Wkt σ σ' := fun _ _ _ h => e ▸ h
theorem AWP.wks {c : Code} {σ' : Tm} (H : AWP P Γ N c Q σ' h) (hw : Wkt σ σ') : AWP P Γ N c Q σ h := fun r G w a hr hI ht => H r G w a hr hI ⟨ht.1, fun i => hw G i _ (ht.2 i)⟩

def keep (L : List Nat) (σ : Tm) : Tm := L.map fun i => (i, lk σ i)

theorem lk_keep (L : List Nat) (σ : Tm) (i : Nat) : lk (keep L σ) i = lk σ i ∨ lk (keep L σ) i = .top := by
  induction L with
  | nil => exact .inr rfl
  | cons j L ih =>
    simp only [keep, List.map_cons, lk]
    split
    · rename_i e; subst e; exact .inl rfl
    · exact ih

theorem AWP.keep {c : Code} (L : List Nat) (H : AWP P Γ N c Q (keep L σ) h) : AWP P Γ N c Q σ h := H.weaken (lk_keep L σ)

/-! ### Regions in the order of the text -/
theorem TR.put {a : Act} (ht : TR N G σ a.tmps) {d : Option Tmp} {v : AV} {u : Value} (hd : ∀ x, d = some x → x < N) (hv : VR G v u) : TR N G (Abs.put d v σ) (a.put d u).tmps := by
  cases d with
  | none => exact ht
  | some x =>
    refine ⟨by simp [Act.put, ht.1], fun i => ?_⟩
    have hx := hd x rfl
    simp only [Abs.put, lk, Act.put]
    by_cases hi : i = x
    · subst hi
      rw [if_pos rfl]
      have : i < a.tmps.size := by rw [ht.1]; exact hx
      simpa [Array.getD_eq_getD_getElem?, this] using hv
    · rw [if_neg hi]
      have := ht.2 i
      rw [Array.getD_eq_getD_getElem?] at this ⊢
      rw [Array.getElem?_setIfInBounds, if_neg (fun e => hi e.symm)]
      exact this

theorem put_defers (a : Act) (d : Option Tmp) (u : Value) : (a.put d u).defers = a.defers := by
  cases d <;> rfl

theorem VR.undef (G : Gh) : VR G (.tuple []) undef := VR.tuple (cs := []) (vals := #[]) rfl (fun j c e => by simp at e)

theorem semAt_ok (ro : Option Nat) (ρ : Operand → Value) (o : Oper) (h : ∀ c, o.op ≠ .defer c) : Oper.semAt ro ρ o = execOp ρ o := Oper.semAt_eq ro ρ o h

theorem aop_defer {o : Oper} {K : AV → AH → Prop} (H : aop P Γ σ h o.op K) : ∀ c, o.op ≠ .defer c := fun c e => by
  rw [e] at H; exact H

/-- One operation's law. -/
theorem aOper0_ok {o : Oper} {K : AV → Tm → AH → Prop} (hI : Inv Γ G h w) {a : Act} (ht : TR N G σ a.tmps) (H : aOper0 P Γ o K σ h) {r : Option Nat} {next : Act → World → Prop} {Q' : Exit → Act → World → Prop}
    (hn : ∀ u v G' h' w', G.le G' → Inv Γ G' h' w' → VR G' v u → K v σ h' → next (a.put o.dst u) w') : o.wpIn (Fr r) 0 P a w next Q' := by
  refine ⟨fun _ _ => trivial, ?_⟩
  have plain : aop P Γ σ h o.op (fun v h' => K v σ h') → o.uponIn (Fr r) 0 P a next Q' ((o.semAt r a.eval).run P w) := fun H => by
    rw [semAt_ok r a.eval o (aop_defer H)]
    obtain ⟨n, u, w', G', av, h', h1, h2, h3, h4, h5, h6⟩ := aop_ok hI ht H
    rw [h1]
    rcases h2 with rfl | ⟨rfl, rfl⟩
    · exact hn u av G' h' w' h3 h4 h5 h6
    · exact hn undef av G' h' w' h3 h4 h5 h6
  show o.uponIn (Fr r) 0 P a next Q' ((o.semAt r a.eval).run P w)
  unfold aOper0 at H
  split at H
  · rename_i c ho
    split at H
    · rename_i f hf
      have hfv := ev_VR hI ht f
      have hargs := evs_VR hI ht c.args
      rw [semAt_ok r a.eval o (fun c' e => by rw [ho] at e; cases e)]
      split at H
      · rename_i g first cap hg
        rw [hg] at hfv
        generalize hvf : a.eval f = vf at hfv
        cases hfv with
        | func h1 h2 h3 h4 =>
          rename_i vfirst vcap
          obtain ⟨henter, hcall⟩ := H
          have hrun : (execOp a.eval o).run P w = .ok (.enter g ((vfirst ++ c.args.map a.eval) ++ vcap)) w := by
            simp [execOp, ho, resolve, hf, hvf, Deferred.ofValue, invoke, henter]
          rw [hrun, Oper.uponIn_enter]
          refine ⟨fun e => by simp [Fr] at e, ?_⟩
          refine CallsIn.mono (callsIn_Fr.2 (hcall G w _ hI (VRs.append (VRs.append ⟨h1, h3⟩ hargs) ⟨h2, h4⟩))) fun e w' hr => ?_
          obtain ⟨v, G', av, h', rfl, k1, k2, k3, k4⟩ := hr
          exact hn v av G' h' w' k1 k2 k3 k4
      · rename_i l hl
        rw [hl] at hfv
        generalize hvf : a.eval f = vf at hfv
        cases hfv with
        | @yield _ B hb =>
          obtain ⟨fn, tmps, assign, body, hy, hround⟩ := H G w _ _ hI hargs hb
          have hrun : (execOp a.eval o).run P w = .ok (.round B fn tmps assign body) w := by
            simp [execOp, ho, resolve, hf, hvf, Deferred.ofValue, invoke, hy]
          rw [hrun, Oper.uponIn_round]
          refine ⟨fun e => by simp [Fr] at e, RoundIn.mono (hround r) fun e w' hr => ?_⟩
          obtain ⟨v, G', av, h', rfl, k1, k2, k3, k4⟩ := hr
          exact hn v av G' h' w' k1 k2 k3 k4
      · exact H.elim
    · exact plain H
  · exact plain H

theorem aSpec_ok (hI : Inv Γ G h w) {a : Act} (ht : TR N G σ a.tmps) {o : Oper} {K : AV → AH → Prop} {p : Prop} (hp : aSpec P Γ σ h o.op K = some p) (H : p) : (∀ c, o.op ≠ .defer c) ∧ StepOK P Γ G w (execOp a.eval o) K := by
  have e := fun x => ev_VR (x := x) hI ht
  unfold aSpec at hp
  unfold execOp
  split at hp <;> rename_i ho <;> simp only [ho]
  · cases hp
    exact ⟨fun c e => by simp at e, .val (next_ok hI (e _) H)⟩
  · rename_i bop t x y _
    split at hp
    · rename_i hy
      cases hp
      refine ⟨fun c e => by simp at e, ?_⟩
      unfold isNilC at hy
      split at hy
      · exact .val (nilC_ok hI (e _) H)
      · cases hy
    · cases hp
  · split at hp
    · cases hp
      exact ⟨fun c e => by simp at e, .val (buildSliceM_ok hI ht H)⟩
    · cases hp
  · rename_i c
    split at hp
    · rename_i hc
      split at hp
      · cases hp
        refine ⟨fun c e => by simp at e, ?_⟩
        split at H
        · rename_i t u s x h1 h2
          have h1' : c.argTypes = #[t, u] := by rw [← Array.toArray_toList (xs := c.argTypes), h1]
          have h2' : c.args = #[s, x] := by rw [← Array.toArray_toList (xs := c.args), h2]
          simp only [resolve, hc, pure_bind, invoke, h1', h2']
          rw [show (#[s, x] : Array Operand).map a.eval = #[a.eval s, a.eval x] from by simp]
          exact .val (appendM_ok hI (e _) (e _) H)
        · exact H.elim
      · cases hp
    · cases hp
  · cases hp
/-- One operation's law. -/
theorem aOper_ok {o : Oper} {K : AV → Tm → AH → Prop} (hI : Inv Γ G h w) {a : Act} (ht : TR N G σ a.tmps) (H : aOper P Γ o K σ h) {r : Option Nat} {next : Act → World → Prop} {Q' : Exit → Act → World → Prop}
    (hn : ∀ u v G' h' w', G.le G' → Inv Γ G' h' w' → VR G' v u → K v σ h' → next (a.put o.dst u) w') : o.wpIn (Fr r) 0 P a w next Q' := by
  unfold aOper at H
  split at H
  · rename_i p hp
    obtain ⟨hd, n, u, w', G', av, h', h1, h2, h3, h4, h5, h6⟩ := aSpec_ok (P := P) (Γ := Γ) hI ht hp H
    refine ⟨fun _ _ => trivial, ?_⟩
    show o.uponIn (Fr r) 0 P a next Q' ((o.semAt r a.eval).run P w)
    rw [semAt_ok r a.eval o hd, h1]
    rcases h2 with rfl | ⟨rfl, rfl⟩
    · exact hn u av G' h' w' h3 h4 h5 h6
    · exact hn undef av G' h' w' h3 h4 h5 h6
  · exact aOper0_ok hI ht H hn

theorem yielded_ok {ops : Array Oper} {j : Nat} {t : Tmp} {b : Bool} {a : Act} (ht : TR N G σ a.tmps) (hj : (ops[j]?).bind (·.dst) = some t) (hb : lk σ t = .bool b) : yielded ops a.tmps j = some b := by
  have hv := ht.2 t
  rw [hb] at hv
  unfold yielded
  rw [hj]
  simp only [Option.bind_some]
  cases hx : a.tmps[t]? with
  | none =>
    rw [Array.getD_eq_getD_getElem?, hx] at hv
    generalize hu : (Option.getD none undef) = u at hv
    cases hv
    simp [undef] at hu
  | some x =>
    rw [Array.getD_eq_getD_getElem?, hx] at hv
    simp only [Option.getD_some] at hv
    cases hv
    rfl

theorem aBoolG_inv {v : AV} {want : Bool} {A B C : Prop} (H : aBoolG v want A B C) : (∃ b, v = .bool b ∧ (b = want → A) ∧ (b = !want → B)) ∨ (v = .tuple [] ∧ C) := by
  unfold aBoolG at H
  split at H
  · exact .inl ⟨_, rfl, H.1, H.2⟩
  · exact .inr ⟨rfl, H⟩
  · exact H.elim
theorem yielded_none {ops : Array Oper} {j : Nat} {t : Tmp} {a : Act} (ht : TR N G σ a.tmps) (hj : (ops[j]?).bind (·.dst) = some t) (hb : lk σ t = .tuple []) : yielded ops a.tmps j = none := by
  have hv := ht.2 t
  rw [hb] at hv
  unfold yielded
  rw [hj]
  simp only [Option.bind_some]
  cases hx : a.tmps[t]? with
  | none => rfl
  | some x =>
    rw [Array.getD_eq_getD_getElem?, hx] at hv
    simp only [Option.getD_some] at hv
    cases hv
    rfl
theorem yielded_gv {ops : Array Oper} {j : Nat} {t : Tmp} {b : Option Bool} {a : Act} (ht : TR N G σ a.tmps) (hj : (ops[j]?).bind (·.dst) = some t) (hb : gv (lk σ t) = some b) : yielded ops a.tmps j = b := by
  unfold gv at hb
  split at hb
  · rename_i c hc; cases hb; exact yielded_ok ht hj hc
  · rename_i hc; cases hb; exact yielded_none ht hj hc
  · cases hb

theorem dstAt_eq : ∀ (l : List Oper) (j : Nat), dstAt l j = (l[j]?).bind (·.dst)
  | [], j => by simp [dstAt]
  | o :: r, 0 => rfl
  | o :: r, j + 1 => by simpa [dstAt] using dstAt_eq r j

theorem TR.same {a : Act} (ht : TR N G σ a.tmps) {t : Tmp} {v : AV} (e : lk σ t = v) : TR N G ((t, v) :: σ) a.tmps := ⟨ht.1, fun i => by
  simp only [lk]
  split
  · rename_i hi; subst hi; rw [← e]; exact ht.2 i
  · exact ht.2 i⟩

theorem aBool_inv {v : AV} {want : Bool} {A B : Prop} (H : aBool v want A B) : ∃ b, v = .bool b ∧ (b = want → A) ∧ (b = !want → B) := by
  cases v <;> first | exact H.elim | exact ⟨_, rfl, H.1, H.2⟩

theorem aOps_ok {ops : Array Oper} {K : Tm → AH → Prop} {G0 : Gh} {ds : List Deferred} {r : Option Nat} : ∀ (l : List Nat) (σ : Tm) (h : AH) (G : Gh) (w : World) (a : Act), (∀ i ∈ l, ∀ o, ops[i]? = some o → ∀ x, o.dst = some x → x < N) →
    G0.le G → Inv Γ G h w → TR N G σ a.tmps → a.defers = ds → aOps P Γ ops.toList K (l.filterMap (ops[·]?)) σ h → wpOpsIn (Fr r) 0 P ops (Post Γ N G0 ds (thenA K fun _ _ _ => False)) l a w := by
  intro l
  induction l with
  | nil =>
    intro σ h G w a _ hle hI ht hd H
    exact ⟨G, σ, h, [], hle, hI, ht, by simpa using hd, fun D hD => by simp at hD, List.nodup_nil, H⟩
  | cons i rest ih =>
    intro σ h G w a hdst hle hI ht hd H
    rw [wpOpsIn_cons]
    unfold wpOpIn
    cases ho : ops[i]? with
    | none =>
      simp only [List.filterMap_cons, ho] at H
      exact ih σ h G w a (fun j hj => hdst j (List.mem_cons_of_mem _ hj)) hle hI ht hd H
    | some o =>
      simp only [List.filterMap_cons, ho] at H
      have hdo := hdst i (List.mem_cons_self ..) o ho
      have run : ∀ σ, TR N G σ a.tmps → aOper P Γ o (fun v σ h => aOps P Γ ops.toList K (rest.filterMap (ops[·]?)) (put o.dst v σ) h) σ h → o.wpIn (Fr r) 0 P a w (wpOpsIn (Fr r) 0 P ops (Post Γ N G0 ds (thenA K fun _ _ _ => False)) rest) (Post Γ N G0 ds (thenA K fun _ _ _ => False)) := fun σ ht H =>
        aOper_ok hI ht H fun u v G' h' w' h1 h2 h3 h4 => by
          exact ih _ h' G' w' _ (fun j hj => hdst j (List.mem_cons_of_mem _ hj)) (hle.trans h1) h2 ((ht.mono h1).put hdo h3) ((put_defers a o.dst u).trans hd) h4
      have pass : ∀ σ, TR N G σ a.tmps → aOps P Γ ops.toList K (rest.filterMap (ops[·]?)) (put o.dst (.tuple []) σ) h → (∀ f, o.about P w a.eval = some f → (Fr r).fn f) ∧ wpOpsIn (Fr r) 0 P ops (Post Γ N G0 ds (thenA K fun _ _ _ => False)) rest (a.put o.dst undef) w := fun σ ht H => by
        exact ⟨fun _ _ => trivial, ih _ h G w _ (fun j hj => hdst j (List.mem_cons_of_mem _ hj)) hle hI (ht.put hdo (VR.undef G)) ((put_defers a o.dst undef).trans hd) H⟩
      simp only [aOps] at H
      unfold Region.wanted
      split at H
      · rename_i hg
        simp only [hg, if_true]
        exact run σ ht H
      · rename_i j want hg
        simp only [hg]
        unfold aDst at H
        split at H
        · rename_i t hj
          rw [dstAt_eq, Array.getElem?_toList] at hj
          rcases aBoolG_inv H with ⟨b, hb, H1, H2⟩ | ⟨hb, H⟩
          · rw [yielded_ok ht hj hb]
            by_cases hbw : b = want
            · subst hbw; simp only [beq_self_eq_true, if_true]; exact run _ (ht.same hb) (H1 rfl)
            · have : (some b == some want) = false := by cases b <;> cases want <;> simp_all
              simp only [this, Bool.false_eq_true, if_false]
              have hbn : b = !want := by cases b <;> cases want <;> simp_all
              exact pass _ (ht.same (hb.trans (by rw [hbn]))) (H2 hbn)
          · rw [yielded_none ht hj hb]
            have : ((none : Option Bool) == some want) = false := rfl
            simp only [this, Bool.false_eq_true, if_false]
            exact pass _ ht H
        · exact H.elim

theorem filterMap_idx {α : Type} (l : List α) : (List.range l.length).filterMap (fun i => l[i]?) = l := by
  induction l with
  | nil => rfl
  | cons x l ih =>
    rw [List.length_cons, List.range_succ_eq_map, List.filterMap_cons, List.filterMap_map]
    simp only [List.getElem?_cons_zero]
    congr 1

theorem filterMap_range (ops : Array Oper) : (List.range ops.size).filterMap (ops[·]?) = ops.toList := by
  have := filterMap_idx ops.toList
  rw [Array.length_toList] at this
  simpa using this

/-- **A region whose order is fixed.** -/
theorem awp_region {id : Nat} {ops : Array Oper} (hd : dstOK N ops = true) (H : aOps P Γ ops.toList (fun σ h => Q .normal σ h) ops.toList σ h) : AWP P Γ N (.region id ops false) Q σ h := fun r G w a hr hI ht => by
  refine wpIn_mono (wpIn_region (Q := Post Γ N G a.defers (thenA (fun σ h => Q .normal σ h) fun _ _ _ => False)) ?_) fun e a' w' hp => ?_
  · refine aOps_ok (List.range ops.size) σ h G w a (fun i _ o ho x hx => ?_) (Gh.le.refl G) hI ht rfl (by rw [filterMap_range]; exact H)
    have := List.all_eq_true.1 hd o (by simpa using Array.mem_of_getElem? ho)
    rw [hx] at this
    exact Nat.le_of_ble_eq_true this
  · refine hp.mono fun e σ h hq => ?_
    cases e <;> first | exact hq | exact hq.elim

/-- A region ahead of other code: the rest behind a name, and only some temporaries kept. -/
theorem awp_seq_region {id : Nat} {ops : Array Oper} {y : Code} (L : List Nat) (hd : dstOK N ops = true)
    (H : ∀ K : Tm → AH → Prop, (∀ σ h, AWP P Γ N y Q (keep L σ) h → K σ h) → aOps P Γ ops.toList K ops.toList σ h) : AWP P Γ N (.seq (.region id ops false) y) Q σ h :=
  awp_seq (awp_region hd (H _ fun _ _ h => h.keep L))
theorem awp_region_k {id : Nat} {ops : Array Oper} (L : List Nat) (hd : dstOK N ops = true) (H : ∀ K : Tm → AH → Prop, (∀ σ h, Q .normal (keep L σ) h → K σ h) → aOps P Γ ops.toList K ops.toList σ h) (hQ : ∀ σ h, Q .normal (keep L σ) h → Q .normal σ h) :
    AWP P Γ N (.region id ops false) Q σ h := awp_region hd (H _ fun _ _ h => hQ _ _ h)
end
end Go.Abs
