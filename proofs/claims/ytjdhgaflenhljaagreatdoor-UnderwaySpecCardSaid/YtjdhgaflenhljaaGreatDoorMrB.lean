/- Texts joined: AbsG, AbsGb, AbsGc, AbsGd, AbsGe, AbsH. No conditions. -/
import Derived.Test.YtjdhgaflenhljaaGreatDoorMrA
import Derived.ChangeKeysEq
import Derived.Maps.RangeRun
/- Cuts, lengths, made slices, maps, indexing of values, seen abstractly. It says nothing of any program; no conditions. -/
set_option linter.unusedSimpArgs false
set_option linter.unusedVariables false
namespace Go.Abs
open Go Go.RowKit

section
variable {P : Program} {Γ : Nat → Option (List AV)} {G : Gh} {h : AH} {w : World} {N : Nat} {σ : Tm}

/-- A bound of a cut. -/
def aNat (d : Nat) : Option AV → Option Int
  | none => some d
  | some (.int _ n) => some n
  | _ => none

/-- Who owns a cut. -/
def cutOwn (own : Own) (len : Nat) (l h : Int) (mx : Option AV) : Own :=
  match mx with
  | some (.int _ m) => if m = h then .full else .free
  | some _ => .free
  | none => match own with
    | .full => if h = len then .full else .free
    | .arena i => if l = 0 then .arena i else .free
    | .free => .free

def aSlice (P : Program) (t : TypeId) (x : AV) (lo hi mx : Option AV) (K : AV → Prop) : Prop :=
  match P.underlying t, x with
  | some .string, .str s => mx = none ∧ (match aNat 0 lo, aNat s.size hi with
    | some l, some h => 0 ≤ l ∧ l ≤ h ∧ h ≤ s.size ∧ K (.str (s.extract l.toNat h.toNat))
    | _, _ => False)
  | some (.slice e), .sl rows own => (match tsz P e, aNat 0 lo, aNat rows.length hi, aNat rows.length mx with
    | some n, some l, some h, some m => RowsOK n rows ∧ 0 ≤ l ∧ l ≤ h ∧ h ≤ m ∧ m ≤ rows.length ∧ (mx.isSome = true → hi.isSome = true) ∧ K (.sl ((rows.take h.toNat).drop l.toNat) (cutOwn own rows.length l h mx))
    | _, _, _, _ => False)
  | some (.slice e), .ms i off len cap sz => (match tsz P e, aNat 0 lo, aNat len hi, aNat cap mx with
    | some n, some l, some h, some m => n = sz ∧ 0 ≤ l ∧ l ≤ h ∧ h ≤ m ∧ m ≤ cap ∧ (mx.isSome = true → hi.isSome = true) ∧ K (.ms i (if m = l then off else off + l.toNat * sz) (h.toNat - l.toNat) (m.toNat - l.toNat) sz)
    | _, _, _, _ => False)
  | _, _ => False

/-- An optional operand. -/
def VRo (G : Gh) : Option AV → Option Value → Prop
  | none, none => True
  | some a, some v => VR G a v
  | _, _ => False

theorem run_sliceBound {v : Value} {k : IntKind} {i : Int} {y : Nat} {code : BoundsCode} (hv : v = .int k i) (h : 0 ≤ i) (h' : i ≤ y) (w : World) : (Instr.sliceBound v y code).run P w = .ok i.toNat w := by
  subst hv
  simp [Instr.sliceBound, asIntOf, h, h']

theorem aNat_some {d : Nat} {x : Option AV} {u : Option Value} {n : Int} (hv : VRo G x u) (e : aNat d x = some n) : (x = none ∧ u = none ∧ n = d) ∨ (∃ k, x = some (.int k n) ∧ u = some (.int k n)) := by
  cases x with
  | none => cases u with
    | none => simp [aNat] at e; exact .inl ⟨rfl, rfl, e.symm⟩
    | some _ => exact hv.elim
  | some a => cases u with
    | none => exact hv.elim
    | some v =>
      cases a <;> simp [aNat] at e
      subst e
      cases hv
      exact .inr ⟨_, rfl, rfl⟩

theorem run_sliceBounds {isS : Bool} {len cap : Nat} {lo hi mx : Option AV} {ul uh um : Option Value} (h1 : VRo G lo ul) (h2 : VRo G hi uh) (h3 : VRo G mx um) {l h m : Int} {c : Nat} (hc : c ≤ cap)
    (e1 : aNat 0 lo = some l) (e2 : aNat len hi = some h) (e3 : aNat c mx = some m) (a1 : 0 ≤ l) (a2 : l ≤ h) (a3 : h ≤ m) (a4 : m ≤ c) (a5 : mx.isSome = true → hi.isSome = true) (w : World) :
    (Instr.sliceBounds isS len cap ul uh um).run P w = .ok (l.toNat, h.toNat, if mx.isSome then m.toNat else cap) w := by
  rcases aNat_some h3 e3 with ⟨rfl, rfl, rfl⟩ | ⟨k3, rfl, rfl⟩
  · rcases aNat_some h2 e2 with ⟨rfl, rfl, rfl⟩ | ⟨k2, rfl, rfl⟩ <;> rcases aNat_some h1 e1 with ⟨rfl, rfl, rfl⟩ | ⟨k1, rfl, rfl⟩
    · simp [Instr.sliceBounds]
    · simp [Instr.sliceBounds, run_sliceBound rfl a1 a2]
    · simp [Instr.sliceBounds, run_sliceBound (y := cap) rfl (show (0 : Int) ≤ h by omega) (by omega)]
    · simp [Instr.sliceBounds, run_sliceBound (y := cap) rfl (show (0 : Int) ≤ h by omega) (by omega), run_sliceBound (y := h.toNat) (v := .int k1 l) rfl a1 (by omega)]
  · rcases aNat_some h2 e2 with ⟨rfl, rfl, rfl⟩ | ⟨k2, rfl, rfl⟩
    · simp at a5
    · rcases aNat_some h1 e1 with ⟨rfl, rfl, rfl⟩ | ⟨k1, rfl, rfl⟩
      · simp [Instr.sliceBounds, run_sliceBound (y := cap) (v := .int k3 m) rfl (show (0 : Int) ≤ m by omega) (by omega), run_sliceBound (y := m.toNat) (v := .int k2 h) rfl (show (0 : Int) ≤ h by omega) (by omega)]
      · simp [Instr.sliceBounds, run_sliceBound (y := cap) (v := .int k3 m) rfl (show (0 : Int) ≤ m by omega) (by omega), run_sliceBound (y := m.toNat) (v := .int k2 h) rfl (show (0 : Int) ≤ h by omega) (by omega),
          run_sliceBound (y := h.toNat) (v := .int k1 l) rfl a1 (by omega)]

theorem slice_ok (hI : Inv Γ G h w) {t : TypeId} {x : AV} {v : Value} {lo hi mx : Option AV} {ul uh um : Option Value} (hx : VR G x v) (h1 : VRo G lo ul) (h2 : VRo G hi uh) (h3 : VRo G mx um) {K : AV → AH → Prop}
    (H : aSlice P t x lo hi mx fun v => K v h) : SemOK P Γ G w (Instr.sliceAt t v ul uh um) K := by
  unfold aSlice at H
  split at H
  · rename_i s hd
    obtain ⟨rfl, H⟩ := H
    split at H
    · rename_i l hh e1 e2
      obtain ⟨a1, a2, a3, hk⟩ := H
      cases hx with
      | str =>
        have hb := run_sliceBounds (P := P) (isS := false) (cap := s.size) h1 h2 (show VRo G none none from trivial) (Nat.le_refl _) e1 e2 (show aNat s.size none = some (s.size : Int) from rfl) a1 a2 a3 (Int.le_refl _) (by simp) w
        cases um with
        | some _ => exact h3.elim
        | none => exact .pure' hI (by simp [Instr.sliceAt, run_underlying hd, Instr.slice, hb] <;> rfl) (.str _) hk
    · exact H.elim
  · rename_i e rows own hd
    split at H
    · rename_i n l hh m hn e1 e2 e3
      obtain ⟨hok, a1, a2, a3, a4, a5, hk⟩ := H
      cases hx with
      | sl vals hcap hnil hsz hF hv hown =>
        rename_i a cap sz
        have hb := run_sliceBounds (P := P) (isS := true) (cap := cap) h1 h2 h3 hcap e1 e2 e3 a1 a2 a3 a4 a5 w
        generalize hM : (if mx.isSome then m.toNat else cap) = M at hb
        have hr : (Instr.sliceAt t (.slice a rows.length cap) ul uh um).run P w = .ok (.slice (if M = l.toNat then a else a.map (·.add (l.toNat * n))) (hh.toNat - l.toNat) (M - l.toNat)) w := by
          simp [Instr.sliceAt, run_underlying hd, Instr.slice, hb, run_sizeOf' hn]
        have hMh : hh.toNat ≤ M := by rw [← hM]; split <;> omega
        have hMc : M ≤ cap := by rw [← hM]; split <;> omega
        have hlen : ((rows.take hh.toNat).drop l.toNat).length = hh.toNat - l.toNat := by rw [List.length_drop, List.length_take]; omega
        have hget : ∀ k r, ((rows.take hh.toNat).drop l.toNat)[k]? = some r → rows[l.toNat + k]? = some r ∧ l.toNat + k < hh.toNat := fun k r ek => by
          rw [List.getElem?_drop, List.getElem?_take] at ek
          split at ek
          · exact ⟨ek, by assumption⟩
          · cases ek
        refine .pure' hI (u := .slice (if M = l.toNat then a else a.map (·.add (l.toNat * n))) (hh.toNat - l.toNat) (M - l.toNat)) hr ?_ hk
        rw [← hlen]
        refine .sl (sz := sz) (fun k j => vals (l.toNat + k) j) (by rw [hlen]; omega) (fun ea => ?_) (fun k r ek => hsz _ r (hget k r ek).1) (fun k r j c ek ec => ?_) (fun k r j c ek ec => hv _ r j c (hget k r ek).1 ec) ?_
        · have : a = none := by
            split at ea
            · exact ea
            · cases a with
              | none => rfl
              | some _ => simp at ea
          have := hnil this; omega
        · obtain ⟨b, o, q1, q2⟩ := hF _ r j c (hget k r ek).1 ec
          have hne : ¬ M = l.toNat := by have := (hget k r ek).2; omega
          have hs : sz = n := (hsz _ r (hget k r ek).1).symm.trans (hok r (List.mem_of_getElem? (hget k r ek).1)).1
          subst hs
          refine ⟨b, o + l.toNat * sz, by rw [if_neg hne, q1]; simp [Addr.add_lit], ?_⟩
          rw [show o + l.toNat * sz + k * sz + j = o + (l.toNat + k) * sz + j from by rw [Nat.add_mul]; omega]
          exact q2
        · generalize hA : (if M = l.toNat then a else a.map fun x => x.add (l.toNat * n)) = A
          unfold cutOwn
          split
          · rename_i k' m'
            have : m' = m := by simpa [aNat] using e3
            subst this
            simp only [Option.isSome_some, if_true] at hM
            split
            · show M - l.toNat = _; rw [hlen]; omega
            · trivial
          · trivial
          · simp only [Option.isSome_none, Bool.false_eq_true, if_false] at hM
            split
            · split
              · show M - l.toNat = _
                rw [hlen]
                have : cap = rows.length := hown
                omega
              · trivial
            · rename_i i
              split
              · rename_i hl0
                obtain ⟨r, q1, q2, q3⟩ := hown
                refine ⟨r, q1, by rw [hlen]; omega, fun eq => ?_⟩
                rw [hlen] at eq
                have hfull : rows.length = r.n := by omega
                have := q3 hfull
                subst hl0
                simp only [Int.toNat_zero, Nat.sub_zero] at hlen ⊢
                have hmap : A = a := by
                  rw [← hA]
                  split
                  · rfl
                  · cases a <;> simp [Addr.add_zero']
                split
                · rename_i hbk
                  rw [hbk] at this; simp only at this; omega
                · rename_i b c s T hbk
                  rw [hbk] at this; simp only at this
                  obtain ⟨z1, z2, z3⟩ := this
                  refine ⟨by rw [hmap]; exact z1, by omega, fun hne => z3 (fun e => hne (by rw [e]; simp))⟩
              · trivial
            · trivial
    · exact H.elim
  · rename_i e i off len cap sz hd
    split at H
    · rename_i n l hh m hn e1 e2 e3
      obtain ⟨rfl, a1, a2, a3, a4, a5, hk⟩ := H
      cases hx with
      | @ms _ B _ _ _ _ hbk =>
        have hb := run_sliceBounds (P := P) (isS := true) (cap := cap) h1 h2 h3 (Nat.le_refl _) e1 e2 e3 a1 a2 a3 a4 a5 w
        have hM : (if mx.isSome then m.toNat else cap) = m.toNat := by
          rcases aNat_some h3 e3 with ⟨rfl, _, rfl⟩ | ⟨k, rfl, _⟩ <;> simp
        rw [hM] at hb
        have hr : (Instr.sliceAt t (.slice (some ⟨B, off, none⟩) len cap) ul uh um).run P w = .ok (.slice (some ⟨B, if m = l then off else off + l.toNat * n, none⟩) (hh.toNat - l.toNat) (m.toNat - l.toNat)) w := by
          simp only [Instr.sliceAt, Sem.run_bind, run_underlying hd, Result.andThen_ok, Instr.slice, hb, run_sizeOf' hn, Sem.run_pure, Option.map_some, Addr.add_lit]
          by_cases hml : m = l
          · simp [hml]
          · rw [if_neg (by omega), if_neg hml]
        exact .pure' hI hr (.ms hbk) hk
    · exact H.elim
  · exact H.elim

/-- Lengths. -/
def aLen (P : Program) (t : TypeId) (x : AV) (h : AH) (K : AV → Prop) : Prop :=
  match P.underlying t, x with
  | some .string, .str s => K (.int .i64 s.size)
  | some (.slice _), .sl rows _ => K (.int .i64 rows.length)
  | some (.slice _), .ms _ _ len _ _ => K (.int .i64 len)
  | some (.array n _), _ => K (.int .i64 n)
  | some (.map _ _), .map none => K (.int .i64 0)
  | some (.map _ _), .map (some i) => (match h[i]? with
    | some (.map es _) => K (.int .i64 es.length)
    | _ => False)
  | _, _ => False

theorem len_ok (hI : Inv Γ G h w) {t : TypeId} {ts : Array TypeId} {ty : TypeId} {x : AV} {v : Value} (hx : VR G x v) (hts : ts[0]? = some t) {K : AV → AH → Prop} (H : aLen P t x h fun v => K v h) :
    SemOK P Γ G w (Builtin.len_ ts ty #[v]) K := by
  unfold aLen at H
  split at H
  · rename_i hd; cases hx; exact .pure' hI (by simp [Builtin.len_, hts, run_underlying hd, goInt] <;> rfl) (.int _ _) H
  · rename_i hd; cases hx; exact .pure' hI (by simp [Builtin.len_, hts, run_underlying hd, goInt] <;> rfl) (.int _ _) H
  · rename_i hd; cases hx; exact .pure' hI (by simp [Builtin.len_, hts, run_underlying hd, goInt] <;> rfl) (.int _ _) H
  · rename_i hd; exact .pure' hI (by simp [Builtin.len_, hts, run_underlying hd, goInt] <;> rfl) (.int _ _) H
  · rename_i hd; cases hx; exact .pure' hI (by simp [Builtin.len_, hts, run_underlying hd, goInt] <;> rfl) (.int _ _) H
  · rename_i i hd
    split at H
    · rename_i es clk hrow
      obtain ⟨b, es', k1, k2, k3, _⟩ := hI.obj i _ hrow
      cases hx with
      | map hb =>
        rw [k1] at hb; cases hb
        exact .pure' hI (by simp [Builtin.len_, hts, run_underlying hd, run_getObj_map _ _ _ _ k2, goInt] <;> rfl) (by rw [← k3]; exact .int _ _) H
    · exact H.elim
  · exact H.elim

/-- A map of one's own. -/
def aMakeMap (h : AH) (K : AV → AH → Prop) : Prop := K (.map (some h.length)) (h ++ [.map [] 0])

theorem makeMap_ok (hI : Inv Γ G h w) {t : TypeId} {K : AV → AH → Prop} (H : aMakeMap h K) : SemOK P Γ G w (Instr.makeMap t none) K :=
  ⟨.map (some w.heap.size), w.alloc (.map #[] 0), G.add h.length w.heap.size, _, _, by simp [Instr.makeMap], hI.add_le _,
    hI.alloc (.map #[] 0) (.map [] 0) ⟨w.heap.size, #[], Gh.add_same _ _ _, heap_alloc_new w _, rfl, fun j e x he => by simp at he⟩, .map (Gh.add_same _ _ _), H⟩

/-- The place of a key among a map's entries. -/
def aFind (k : AV) : List (Nat × AV × AV) → Option (Option Nat)
  | [] => some none
  | (_, k', _) :: r => (match k, k' with
    | .int p a, .int q b => if p = q then (if a = b then some (some 0) else (aFind k r).map (Option.map (· + 1))) else none
    | .str a, .str b => if (a == b) = true then some (some 0) else (aFind k r).map (Option.map (· + 1))
    | _, _ => none)

/-- Kinds of keys that are looked up by what they are. -/
def keyFits : TypeDesc → AV → Bool
  | .int _, .int _ _ => true
  | .string, .str _ => true
  | _, _ => false

def foundAt (es : List MapEntry) (n : Nat) : Option Nat → Option (Nat × Value)
  | none => none
  | some i => (es[i]?).map fun x => (n + i, x.val)

theorem VR.int_inv {G : Gh} {k : IntKind} {n : Int} {v : Value} (h : VR G (.int k n) v) : v = .int k n := by cases h; rfl
theorem VR.str_inv {G : Gh} {s : ByteArray} {v : Value} (h : VR G (.str s) v) : v = .string s := by cases h; rfl

theorem findNow_ok {G : Gh} {kd : TypeDesc} {k : AV} {u : Value} (hk : VR G k u) (hf : keyFits kd k = true) : ∀ (ents : List (Nat × AV × AV)) (es : List MapEntry) (n : Nat), ents.length = es.length →
    (∀ (j : Nat) (e : Nat × AV × AV) (x : MapEntry), ents[j]? = some e → es[j]? = some x → VR G e.2.1 x.key) → ∀ {r : Option Nat}, aFind k ents = some r →
    Instr.findNow kd u es n = some (foundAt es n r) ∧ (∀ i, r = some i → i < es.length) := by
  intro ents
  induction ents with
  | nil =>
    intro es n hl _ r hr
    cases es with
    | nil => simp [aFind] at hr; subst hr; exact ⟨rfl, fun i e => by cases e⟩
    | cons _ _ => simp at hl
  | cons e ents ih =>
    intro es n hl hv r hr
    cases es with
    | nil => simp at hl
    | cons x es =>
      obtain ⟨b, k', v'⟩ := e
      have hkx := hv 0 _ _ rfl rfl
      simp only at hkx
      have step : ∀ {same : Bool}, Instr.sameNow kd u x.key = some same → (if same then some (some 0) else (aFind k ents).map (Option.map (· + 1))) = some r →
          Instr.findNow kd u (x :: es) n = some (foundAt (x :: es) n r) ∧ (∀ i, r = some i → i < (x :: es).length) := fun {same} hs hr => by
        simp only [Instr.findNow, hs]
        cases same with
        | true => simp at hr; subst hr; exact ⟨by simp [foundAt], fun i e => by cases e; simp⟩
        | false =>
          simp only [Bool.false_eq_true, if_false, Option.map_eq_some_iff] at hr
          obtain ⟨r', h1, h2⟩ := hr
          obtain ⟨q1, q2⟩ := ih es (n + 1) (by simpa using hl) (fun j e x he hx => hv (j + 1) e x he hx) h1
          subst h2
          rw [q1]
          cases r' with
          | none => exact ⟨rfl, fun i e => by cases e⟩
          | some i => exact ⟨by simp [foundAt, Nat.add_assoc, Nat.add_comm 1 i], fun j e => by simp at e; subst e; have := q2 i rfl; simp; omega⟩
      unfold aFind at hr
      split at hr
      · rename_i p a q c
        have hu := hk.int_inv
        have hkx' := hkx.int_inv
        split at hr
        · rename_i hpq
          subst hpq
          refine step (same := (a == c)) ?_ (by simpa using hr)
          rw [hu, hkx']
          cases kd <;> simp [keyFits] at hf
          simp [Instr.sameNow]
        · cases hr
      · rename_i a c
        have hu := hk.str_inv
        have hkx' := hkx.str_inv
        refine step (same := (a == c)) ?_ hr
        rw [hu, hkx']
        cases kd <;> simp [keyFits] at hf
        simp [Instr.sameNow]
      · cases hr

theorem checkKey_ok {kt : TypeId} {kd : TypeDesc} (hkd : P.underlying kt = some kd) {k : AV} {u : Value} (hk : VR G k u) (hf : keyFits kd k = true) (b : Bool) (n : Nat) (w : World) : (Instr.checkKey b (n + 1) kt u).run P w = .ok () w := by
  cases k <;> cases kd <;> simp [keyFits] at hf <;> cases hk <;> simp [Instr.checkKey, run_underlying hkd]

/-- What is found. -/
def aLkF (ok : Bool) (z : AV) (r : Option (Option Nat)) (ents : List (Nat × AV × AV)) (K : AV → Prop) : Prop := match r with
  | some none => K (if ok then .tuple [z, .bool false] else z)
  | some (some j) => (match ents[j]? with
    | some e => K (if ok then .tuple [e.2.2, .bool true] else e.2.2)
    | none => False)
  | none => False
def aLkO (ok : Bool) (z k : AV) (ob : Option AObj) (K : AV → Prop) : Prop := match ob with
  | some (.map ents _) => aLkF ok z (aFind k ents) ents K
  | _ => False
def aLkM (z m k : AV) (ok : Bool) (h : AH) (K : AV → Prop) : Prop := match m with
  | .map none => K (if ok then .tuple [z, .bool false] else z)
  | .map (some i) => aLkO ok z k (h[i]?) K
  | _ => False
/-- Looking up. -/
def aLookup (P : Program) (t : TypeId) (m k : AV) (ok : Bool) (h : AH) (K : AV → Prop) : Prop :=
  match P.underlying t with
  | some (.map kt et) => (match P.underlying kt, tzero P et with
    | some kd, some z => keyFits kd k = true ∧ aLkM (ofV z) m k ok h K
    | _, _ => False)
  | _ => False

theorem VR.pairOk {G : Gh} {a : AV} {v : Value} (ha : VR G a v) (ok b : Bool) : VR G (if ok then .tuple [a, .bool b] else a) (if ok then .tuple #[v, .bool b] else v) := by
  cases ok with
  | false => exact ha
  | true =>
    have := VRs.cons ha (VRs.one (VR.bool (G := G) b))
    exact .tuple this.1 this.2

theorem lookup_ok (hI : Inv Γ G h w) {t : TypeId} {m k : AV} {vm vk : Value} {ok : Bool} (hm : VR G m vm) (hk : VR G k vk) {K : AV → AH → Prop} (H : aLookup P t m k ok h fun v => K v h) : SemOK P Γ G w (Instr.lookup t vm vk ok) K := by
  unfold aLookup at H
  split at H
  · rename_i kt et hd
    split at H
    · rename_i kd z hkd hz
      obtain ⟨hf, H⟩ := H
      unfold aLkM at H
      split at H
      · cases hm
        exact .pure' hI (u := if ok then .tuple #[z, .bool false] else z) (by simp [Instr.lookup, run_underlying hd, checkKey_ok hkd hk hf, Instr.findKey, run_underlying hkd, Instr.findNow, run_zero' hz]) ((ofV_VR G z).pairOk ok false) H
      · rename_i i
        unfold aLkO aLkF at H
        split at H
        · rename_i ents clk hrow
          obtain ⟨b, es, k1, k2, k3, k4⟩ := hI.obj i _ hrow
          cases hm with
          | map hb =>
            rw [k1] at hb; cases hb
            have hkeys : ∀ (j : Nat) (e : Nat × AV × AV) (x : MapEntry), ents[j]? = some e → es.toList[j]? = some x → VR G e.2.1 x.key := fun j e x he hx => (k4 j e x he (by simpa using hx)).2.1
            split at H
            · rename_i hr
              obtain ⟨q1, _⟩ := findNow_ok (kd := kd) hk hf ents es.toList 0 (by simpa using k3) hkeys hr
              exact .pure' hI (u := if ok then .tuple #[z, .bool false] else z) (by simp [Instr.lookup, run_underlying hd, run_getObj_map _ _ _ _ k2, checkKey_ok hkd hk hf, Instr.findKey, run_underlying hkd, q1, foundAt, run_zero' hz]) ((ofV_VR G z).pairOk ok false) H
            · rename_i j hr
              obtain ⟨q1, q2⟩ := findNow_ok (kd := kd) hk hf ents es.toList 0 (by simpa using k3) hkeys hr
              have hj := q2 j rfl
              obtain ⟨x, hx⟩ : ∃ x, es.toList[j]? = some x := ⟨_, List.getElem?_eq_getElem hj⟩
              split at H
              · rename_i e he
                have hval := (k4 j e x he (by simpa using hx)).2.2
                have hx' : es[j]? = some x := by simpa using hx
                exact .pure' hI (u := if ok then .tuple #[x.val, .bool true] else x.val) (by simp [Instr.lookup, run_underlying hd, run_getObj_map _ _ _ _ k2, checkKey_ok hkd hk hf, Instr.findKey, run_underlying hkd, q1, foundAt, hx']) (hval.pairOk ok true) H
              · exact H.elim
            · exact H.elim
        · exact H.elim
      · exact H.elim
    · exact H.elim
  · exact H.elim
end
end Go.Abs

/- More of the model's operations, seen abstractly: writing into a map, made slices. It says nothing of any program; no conditions. -/
set_option linter.unusedSimpArgs false
set_option linter.unusedVariables false
namespace Go.Abs
open Go Go.RowKit

section
variable {P : Program} {Γ : Nat → Option (List AV)} {G : Gh} {h : AH} {w : World} {N : Nat} {σ : Tm}

theorem run_setObj' {b : Nat} {es : Array MapEntry} {c : Nat} {o : Obj} (hb : w.heap[b]? = some (.map es c)) : (setObj b o).run P w = .ok () (w.putObj b o) := by
  simp [setObj, Sem.run, hb, World.putObj]

theorem ba_eq (a b : ByteArray) : (a == b) = true ↔ a = b := by
  obtain ⟨a⟩ := a
  obtain ⟨b⟩ := b
  show (a == b) = true ↔ _
  rw [beq_iff_eq]
  exact ⟨fun h => by rw [h], fun h => by cases h; rfl⟩

/-- A map's new entry, or an entry anew. -/
def putEnt (ents : List (Nat × AV × AV)) (clk : Nat) (k x : AV) : Option Nat → Option AObj
  | none => some (.map (ents ++ [(clk, k, x)]) (clk + 1))
  | some j => (ents[j]?).map fun e => .map (ents.set j (e.1, k, x)) clk

/-- Writing into a map of one's own. -/
def aMapUpdate (P : Program) (t : TypeId) (m k x : AV) (h : AH) (K : AH → Prop) : Prop :=
  match P.underlying t with
  | some (.map kt _) => (match P.underlying kt with
    | some kd => keyFits kd k = true ∧ (match m with
      | .map (some i) => (match h[i]? with
        | some (.map ents clk) => (match (aFind k ents).bind (putEnt ents clk k x) with
          | some ob => K (h.set i ob)
          | none => False)
        | _ => False)
      | _ => False)
    | none => False)
  | _ => False

/-- A write to a map's block. -/
theorem Inv.setMap (hI : Inv Γ G h w) {i b : Nat} (hb : G.ρ i = some b) {es0 : Array MapEntry} {c0 : Nat} (hw : w.heap[b]? = some (.map es0 c0)) {ents : List (Nat × AV × AV)} {es : Array MapEntry} {clk : Nat}
    (hl : ents.length = es.size) (hv : ∀ (j : Nat) (e : Nat × AV × AV) (x : MapEntry), ents[j]? = some e → es[j]? = some x → x.born = e.1 ∧ VR G e.2.1 x.key ∧ VR G e.2.2 x.val) (hfz : h[i]? ≠ some .frozen) :
    Inv Γ G (h.set i (.map ents clk)) (w.putObj b (.map es clk)) := by
  have hlt := lt_of_heap hw
  have hnew : (w.putObj b (.map es clk)).heap[b]? = some (.map es clk) := by simp [World.putObj, hlt]
  refine hI.write (w' := w.putObj b (.map es clk)) hb (by simp [World.putObj]) rfl rfl rfl (fun k hk => World.putObj_heap_other hk) _ ⟨b, es, hb, hnew, hl, hv⟩ (fun D hD => ?_) (by rw [hw]; simp) hfz
  obtain ⟨l, e1, _⟩ := hI.lp b D hD
  rw [hw] at e1; cases e1

theorem sameBits_key {kd : TypeDesc} {k k' : AV} {u u' : Value} (hk : VR G k u) (hk' : VR G k' u') (hf : keyFits kd k = true) {ents : List (Nat × AV × AV)} {j : Nat} {e : Nat × AV × AV} (hr : aFind k ents = some (some j)) (he : ents[j]? = some e) (hke : k' = e.2.1) :
    Instr.sameBits 10000 u' u = true := by
  induction ents generalizing j with
  | nil => simp [aFind] at hr
  | cons a ents ih =>
    obtain ⟨b, q, v⟩ := a
    unfold aFind at hr
    split at hr
    · rename_i p a q' c
      split at hr
      · rename_i hpq
        subst hpq
        split at hr
        · rename_i hac
          subst hac
          cases hr
          simp at he; subst he; subst hke
          rw [hk.int_inv, hk'.int_inv]
          simp [Instr.sameBits]
        · simp only [Option.map_eq_some_iff] at hr
          obtain ⟨r', h1, h2⟩ := hr
          cases r' with
          | none => simp at h2
          | some j' =>
            obtain ⟨_, h2, rfl⟩ := h2; cases h2
            exact ih h1 (by simpa using he)
      · cases hr
    · rename_i a c
      split at hr
      · rename_i hac
        have hac' : a = c := (ba_eq _ _).1 hac
        subst hac'
        cases hr
        simp at he; subst he; subst hke
        rw [hk.str_inv, hk'.str_inv]
        exact (ba_eq a a).2 rfl
      · simp only [Option.map_eq_some_iff] at hr
        obtain ⟨r', h1, h2⟩ := hr
        cases r' with
        | none => simp at h2
        | some j' =>
          obtain ⟨_, h2, rfl⟩ := h2; cases h2
          exact ih h1 (by simpa using he)
    · cases hr

theorem mapUpdate_ok (hI : Inv Γ G h w) {t : TypeId} {m k x : AV} {vm vk vx : Value} (hm : VR G m vm) (hk : VR G k vk) (hx : VR G x vx) {K : AH → Prop} (H : aMapUpdate P t m k x h K) : SemOKU P Γ G w (Instr.mapUpdate t vm vk vx) K := by
  unfold aMapUpdate at H
  split at H
  · rename_i kt et hd
    split at H
    · rename_i kd hkd
      obtain ⟨hf, H⟩ := H
      split at H
      · rename_i i
        split at H
        · rename_i ents clk hrow
          obtain ⟨b, es, k1, k2, k3, k4⟩ := hI.obj i _ hrow
          cases hm with
          | map hb =>
            rw [k1] at hb; cases hb
            have hkeys : ∀ (j : Nat) (e : Nat × AV × AV) (x : MapEntry), ents[j]? = some e → es.toList[j]? = some x → VR G e.2.1 x.key := fun j e x he hx => (k4 j e x he (by simpa using hx)).2.1
            split at H
            · rename_i ob hob
              rw [Option.bind_eq_some_iff] at hob
              obtain ⟨r, hr, hob⟩ := hob
              obtain ⟨q1, q2⟩ := findNow_ok (kd := kd) hk hf ents es.toList 0 (by simpa using k3) hkeys hr
              cases r with
              | none =>
                cases hob
                refine ⟨w.putObj b (.map (es.push { key := vk, val := vx, born := clk }) (clk + 1)), G, _, ?_, Gh.le.refl G, hI.setMap k1 k2 (by simp [k3]) (fun j e y he hy => ?_) (by rw [hrow]; simp), H⟩
                · simp [Instr.mapUpdate, run_underlying hd, run_getObj_map _ _ _ _ k2, checkKey_ok hkd hk hf, Instr.findKey, run_underlying hkd, q1, foundAt, run_setObj' k2]
                · rw [List.getElem?_append] at he
                  rw [Array.getElem?_push] at hy
                  by_cases hj : j < ents.length
                  · rw [if_pos hj] at he
                    rw [if_neg (by omega)] at hy
                    exact k4 j e y he hy
                  · rw [if_neg hj] at he
                    have hj0 : j - ents.length = 0 := by
                      have := (List.getElem?_eq_some_iff.1 he).1
                      simp at this; omega
                    rw [hj0] at he
                    simp at he; subst he
                    rw [if_pos (by omega)] at hy
                    cases hy
                    exact ⟨rfl, hk, hx⟩
              | some j =>
                simp only [putEnt, Option.map_eq_some_iff] at hob
                obtain ⟨e0, he0, rfl⟩ := hob
                have hj := q2 j rfl
                have hjs : j < es.size := by simpa using hj
                have hxj : es[j]? = some es[j] := Array.getElem?_eq_getElem hjs
                have hkey := (k4 j e0 _ he0 hxj).2.1
                have hsb := sameBits_key hk hkey hf hr he0 rfl
                refine ⟨w.putObj b (.map (es.modify j fun e => { e with key := vk, val := vx }) clk), G, _, ?_, Gh.le.refl G, hI.setMap k1 k2 (by simp [k3]) (fun j' e y he hy => ?_) (by rw [hrow]; simp), H⟩
                · simp [Instr.mapUpdate, run_underlying hd, run_getObj_map _ _ _ _ k2, checkKey_ok hkd hk hf, Instr.findKey, run_underlying hkd, q1, foundAt, hxj, Instr.keyThatStays, hsb, run_setObj' k2]
                · rw [List.getElem?_set] at he
                  rw [Array.getElem?_modify] at hy
                  by_cases hjj : j = j'
                  · subst hjj
                    rw [if_pos rfl, if_pos (by omega)] at he
                    cases he
                    rw [if_pos rfl, hxj] at hy
                    cases hy
                    exact ⟨(k4 j e0 _ he0 hxj).1, hk, hx⟩
                  · rw [if_neg hjj] at he
                    rw [if_neg hjj] at hy
                    exact k4 j' e y he hy
            · exact H.elim
        · exact H.elim
      · exact H.elim
    · exact H.elim
  · exact H.elim
end
end Go.Abs

/- More of the model's operations, seen abstractly: the lesser and the greater of two, arrays compared, bytes as a string, cuts of arrays. It says nothing of any program; no conditions. -/
set_option linter.unusedSimpArgs false
set_option linter.unusedVariables false
namespace Go.Abs
open Go Go.RowKit

section
variable {P : Program} {Γ : Nat → Option (List AV)} {G : Gh} {h : AH} {w : World} {N : Nat} {σ : Tm}

/-! ### The lesser and the greater of two -/
def aMin (x y : AV) (K : AV → Prop) : Prop := match x, y with
  | .int k a, .int k' b => k = k' ∧ K (.int k (if b < a then b else a))
  | _, _ => False
def aMax (x y : AV) (K : AV → Prop) : Prop := match x, y with
  | .int k a, .int k' b => k = k' ∧ K (.int k (if a < b then b else a))
  | _, _ => False
theorem min_ok (hI : Inv Γ G h w) {ts : Array TypeId} {ty : TypeId} {x y : AV} {u v : Value} (hx : VR G x u) (hy : VR G y v) {K : AV → AH → Prop} (H : aMin x y fun v => K v h) : SemOK P Γ G w (Builtin.min_ ts ty #[u, v]) K := by
  unfold aMin at H
  split at H
  · obtain ⟨rfl, hk⟩ := H
    cases hx; cases hy
    exact .pure' hI (by simp [Builtin.min_, Builtin.min2] <;> rfl) (.int _ _) hk
  · exact H.elim
theorem max_ok (hI : Inv Γ G h w) {ts : Array TypeId} {ty : TypeId} {x y : AV} {u v : Value} (hx : VR G x u) (hy : VR G y v) {K : AV → AH → Prop} (H : aMax x y fun v => K v h) : SemOK P Γ G w (Builtin.max_ ts ty #[u, v]) K := by
  unfold aMax at H
  split at H
  · obtain ⟨rfl, hk⟩ := H
    cases hx; cases hy
    exact .pure' hI (by simp [Builtin.max_, Builtin.max2] <;> rfl) (.int _ _) hk
  · exact H.elim

/-! ### Arrays of integers, compared -/
/-- Arrays of integers: the integers' kind, how many. -/
def teq (P : Program) (t : TypeId) : Option (IntKind × Nat) := match P.underlying t with
  | some (.array n e) => (match P.underlying e with
    | some (.int k) => if P.plainKey e && (P.info? e).isSome && Nat.beq (P.cellsOf e) 1 && !(P.eqGuardType P.depth t) then some (k, n) else none
    | _ => none)
  | _ => none
def eqI (k : IntKind) : List AV → List AV → Option Bool
  | [], [] => some true
  | .int k1 a :: r, .int k2 b :: s => if k1 = k ∧ k2 = k then (eqI k r s).map fun t => decide (a = b) && t else none
  | _, _ => none
def aEqO (op : BinOp) (r : Option Bool) (K : AV → Prop) : Prop := match r with
  | some b => (match op with
    | .eql => K (.bool b)
    | .neq => K (.bool (!b))
    | _ => False)
  | none => False
def aEqT (d : Option (IntKind × Nat)) (op : BinOp) (xs ys : List AV) (K : AV → Prop) : Prop := match d with
  | some (k, n) => xs.length = n ∧ aEqO op (eqI k xs ys) K
  | none => False
/-- The kinds of cells that are compared by what they are. -/
inductive CK where
  | int | bool | str
def ckOf : Option TypeDesc → Option CK
  | some (.int _) => some .int
  | some .bool => some .bool
  | some .string => some .str
  | _ => none
/-- A struct of plain cells: their places. -/
def teqS (P : Program) (t : TypeId) : Option (List (Nat × CK)) := match P.underlying t with
  | some (.struct fs) => if P.stoodInHeld t || P.eqGuardType P.depth t then none else
      fs.toList.mapM fun f => if f.name = "_" then none else if P.plainKey f.type then (ckOf (P.underlying f.type)).map fun k => (f.offset, k) else none
  | _ => none
def eqCell : CK → AV → AV → Option Bool
  | .int, .int k a, .int k' c => if k = k' then some (decide (a = c)) else none
  | .bool, .bool a, .bool c => some (a == c)
  | .str, .str a, .str c => some (a.toList == c.toList)
  | _, _, _ => none
def eqCellO (k : CK) : Option AV → Option AV → Option Bool
  | some a, some c => eqCell k a c
  | _, _ => none
def andO : Option Bool → Option Bool → Option Bool
  | some a, some b => some (a && b)
  | _, _ => none
def eqS (xs ys : List AV) : List (Nat × CK) → Option Bool
  | [] => some true
  | (o, k) :: r => andO (eqCellO k xs[o]? ys[o]?) (eqS xs ys r)
def aEqS (d : Option (List (Nat × CK))) (op : BinOp) (xs ys : List AV) (K : AV → Prop) : Prop := match d with
  | some l => aEqO op (eqS xs ys l) K
  | none => False
def aEqA (d : Option (List (Nat × CK))) (d2 : Option (IntKind × Nat)) (op : BinOp) (xs ys : List AV) (K : AV → Prop) : Prop := match d with
  | some l => aEqS (some l) op xs ys K
  | none => aEqT d2 op xs ys K
def aBin2 (P : Program) (op : BinOp) (t : TypeId) (x y : AV) (K : AV → Prop) : Prop :=
  match x, y with
  | .agg xs, .agg ys => aEqA (teqS P t) (teq P t) op xs ys K
  | _, _ => aBin P op t x y K

theorem eqCell_run {G : Gh} {k : CK} {e : TypeId} {a c : AV} {u v : Value} {b : Bool} (hk : ckOf (P.underlying e) = some k) (ha : VR G a u) (hc : VR G c v) (h : eqCell k a c = some b) (d : Nat) (w : World) : (Op.equalIn (d + 1) e u v).run P w = .ok b w := by
  unfold ckOf at hk
  split at hk
  · rename_i hu
    cases hk
    cases a <;> cases c <;> simp [eqCell] at h
    obtain ⟨rfl, rfl⟩ := h
    cases ha; cases hc
    simp only [Op.equalIn, Sem.run_bind, run_underlying hu, Result.andThen_ok, if_true, Sem.run_pure]
    congr 1
  · rename_i hu
    cases hk
    cases a <;> cases c <;> simp [eqCell] at h
    subst h
    cases ha; cases hc
    simp only [Op.equalIn, Sem.run_bind, run_underlying hu, Result.andThen_ok, Sem.run_pure]
  · rename_i hu
    cases hk
    cases a <;> cases c <;> simp [eqCell] at h
    subst h
    cases ha; cases hc
    simp only [Op.equalIn, Sem.run_bind, run_underlying hu, Result.andThen_ok, Sem.run_pure, beq_toListBytes]
  · cases hk
theorem eqS_run {G : Gh} {xs ys : List AV} {vx vy : Array Value} (hx : VRs G xs vx) (hy : VRs G ys vy) (d : Nat) (w : World) : ∀ (fs : List Field) (l : List (Nat × CK)) {b : Bool},
    fs.mapM (fun f => if f.name = "_" then none else if P.plainKey f.type then (ckOf (P.underlying f.type)).map fun k => (f.offset, k) else none) = some l → eqS xs ys l = some b → (Op.eqFields (d + 1) vx vy fs).run P w = .ok b w
  | [], l, b, hl, hb => by
    simp at hl
    subst hl
    cases hb
    simp [Op.eqFields]
  | f :: fs, l, b, hl, hb => by
    rw [List.mapM_cons] at hl
    simp only [bind, Option.bind_eq_some_iff, pure, Option.some.injEq] at hl
    obtain ⟨q, h1, l', h2, rfl⟩ := hl
    split at h1
    · cases h1
    · rename_i hn
      split at h1
      · rename_i hp
        obtain ⟨k, hk, rfl⟩ := Option.map_eq_some_iff.1 h1
        simp only [eqS] at hb
        unfold andO at hb
        split at hb
        · rename_i b1 b2 hb1 hb2
          cases hb
          unfold eqCellO at hb1
          split at hb1
          · rename_i a c ea ec
            obtain ⟨u, eu, ru⟩ := hx.get ea
            obtain ⟨v, ev, rv⟩ := hy.get ec
            have p1 := run_part_plain (P := P) w hp (xs := vx) (off := f.offset) eu
            have p2 := run_part_plain (P := P) w hp (xs := vy) (off := f.offset) ev
            have p3 := eqCell_run (P := P) hk ru rv hb1 d w
            have ih := eqS_run hx hy d w fs l' h2 hb2
            simp only [Op.eqFields, hn, ne_eq, not_false_eq_true, if_true, Sem.run_bind, p1, p2, p3, Result.andThen_ok]
            cases b1
            · simp
            · simpa using ih
          · cases hb1
        · cases hb
      · cases h1

theorem eqI_get {k : IntKind} : ∀ {xs ys : List AV} {b : Bool}, eqI k xs ys = some b → ys.length = xs.length ∧ (∀ j, j < xs.length → ∃ a c, xs[j]? = some (.int k a) ∧ ys[j]? = some (.int k c)) ∧
    (b = true ↔ ∀ (j : Nat) (a c : Int), xs[j]? = some (.int k a) → ys[j]? = some (.int k c) → a = c)
  | [], [], b, h => by
    simp [eqI] at h
    subst h; simp
  | x :: r, y :: s, b, h => by
    unfold eqI at h
    split at h
    · rename_i e _; cases e
    · rename_i k1 a r' k2 c s' e1 e2
      cases e1; cases e2
      split at h
      · rename_i hk
        obtain ⟨rfl, rfl⟩ := hk
        obtain ⟨t, ht, rfl⟩ := Option.map_eq_some_iff.1 h
        obtain ⟨h1, h2, h3⟩ := eqI_get ht
        refine ⟨by simp [h1], fun j hj => ?_, ?_⟩
        · cases j with
          | zero => exact ⟨a, c, rfl, rfl⟩
          | succ j => exact h2 j (by simpa using hj)
        · rw [Bool.and_eq_true, decide_eq_true_eq, h3]
          constructor
          · rintro ⟨hac, hh⟩ j a' c' e e'
            cases j with
            | zero => simp at e e'; omega
            | succ j => exact hh j a' c' (by simpa using e) (by simpa using e')
          · intro hh
            exact ⟨hh 0 a c rfl rfl, fun j a' c' e e' => hh (j + 1) a' c' (by simpa using e) (by simpa using e')⟩
      · cases h
    · cases h
  | [], _ :: _, b, h => by simp [eqI] at h
  | _ :: _, [], b, h => by simp [eqI] at h

theorem run_eqInts {e : TypeId} {k : IntKind} (he : P.plainKey e = true) (hu : P.underlying e = some (.int k)) (hc : P.cellsOf e = 1) (d : Nat) (xs ys : Array Value) (w : World) :
    ∀ is : List Nat, (∀ i ∈ is, ∃ a b, xs[i]? = some (.int k a) ∧ ys[i]? = some (.int k b)) → ∃ r : Bool, (Op.eqItems (d + 1) e (P.cellsOf e) xs ys is).run P w = .ok r w ∧ (r = true ↔ ∀ i ∈ is, xs[i]? = ys[i]?)
  | [], _ => ⟨true, by simp [Op.eqItems], by simp⟩
  | i :: is, hi => by
    obtain ⟨a, b, h1, h2⟩ := hi i (List.mem_cons_self ..)
    obtain ⟨r, hr, hiff⟩ := run_eqInts he hu hc d xs ys w is fun j hj => hi j (List.mem_cons_of_mem _ hj)
    have p1 := run_part_plain (P := P) w he (xs := xs) (off := i * P.cellsOf e) (by rw [hc, Nat.mul_one]; exact h1)
    have p2 := run_part_plain (P := P) w he (xs := ys) (off := i * P.cellsOf e) (by rw [hc, Nat.mul_one]; exact h2)
    have p3 : (Op.equalIn (d + 1) e (.int k a) (.int k b)).run P w = .ok (a == b) w := by
      simp only [Op.equalIn, Sem.run_bind, run_underlying hu, Result.andThen_ok, if_true, Sem.run_pure]
    simp only [Op.eqItems, Sem.run_bind, p1, p2, p3, Result.andThen_ok]
    by_cases hab : a = b
    · subst hab
      refine ⟨r, by simpa using hr, ?_⟩
      rw [hiff]
      simp [h1, h2]
    · refine ⟨false, by simp [hab], ?_⟩
      simp [h1, h2, hab]

theorem bin2_ok (hI : Inv Γ G h w) {op : BinOp} {t : TypeId} {ox oy : Operand} {x y : AV} {u v : Value} (hx : VR G x u) (hy : VR G y v) {K : AV → AH → Prop} (H : aBin2 P op t x y fun v => K v h) :
    SemOK P Γ G w (do eqGuard op t ox oy u v; binOp op t u v) K := by
  unfold aBin2 at H
  split at H
  · rename_i xs ys
    unfold aEqA at H
    split at H
    · rename_i l hd
      unfold aEqS aEqO at H
      simp only at H
      split at H
      · rename_i b hb
        unfold teqS at hd
        split at hd
        · rename_i fs hu
          split at hd
          · cases hd
          · rename_i hg
            simp only [Bool.or_eq_true, not_or, Bool.not_eq_true] at hg
            cases hx with
            | agg l1 v1 =>
            rename_i vx
            cases hy with
            | agg l2 v2 =>
            rename_i vy
            have hfs : P.fieldsOf t = fs := by simp [Program.fieldsOf, hu]
            have he : (Op.equal t (.agg vx) (.agg vy)).run P w = .ok b w := by
              rw [equal_depth, run_equalIn_struct w 9999 t vx vy (by rw [hfs]; exact hu) hg.1, hfs]
              exact eqS_run ⟨l1, v1⟩ ⟨l2, v2⟩ 9998 w fs.toList l hd hb
            have hgd : (eqGuard op t ox oy (.agg vx) (.agg vy)).run P w = .ok () w := by
              cases op <;> simp [eqGuard, hg.2]
            cases op <;> simp only at H <;> first
              | exact H.elim
              | exact .pure' hI (by simp only [Sem.run_bind, hgd, Result.andThen_ok, binOp, he, Sem.run_pure]) (.bool _) H
        · cases hd
      · exact H.elim
    unfold aEqT at H
    split at H
    · rename_i k n hd
      obtain ⟨hl, H⟩ := H
      unfold aEqO at H
      split at H
      · rename_i b hb
        obtain ⟨e1, e2, e3⟩ := eqI_get hb
        unfold teq at hd
        split at hd
        · rename_i n' e hu
          split at hd
          · rename_i k' hk
            split at hd
            · rename_i hc
              cases hd
              simp only [Bool.and_eq_true, Bool.not_eq_true'] at hc
              obtain ⟨⟨⟨c1, c2⟩, c3⟩, c4⟩ := hc
              obtain ⟨info, hinfo⟩ := Option.isSome_iff_exists.1 c2
              cases hx with
              | agg l1 v1 =>
              rename_i vx
              cases hy with
              | agg l2 v2 =>
              rename_i vy
              have hget : ∀ i, i < xs.length → ∃ a c, xs[i]? = some (.int k a) ∧ ys[i]? = some (.int k c) ∧ vx[i]? = some (.int k a) ∧ vy[i]? = some (.int k c) := fun i hi => by
                obtain ⟨a, c, q1, q2⟩ := e2 i hi
                obtain ⟨u1, p1, r1⟩ := (show VRs G xs vx from ⟨l1, v1⟩).get q1
                obtain ⟨u2, p2, r2⟩ := (show VRs G ys vy from ⟨l2, v2⟩).get q2
                cases r1; cases r2
                exact ⟨a, c, q1, q2, p1, p2⟩
              obtain ⟨r, hr, hiff⟩ := run_eqInts c1 hk (Nat.eq_of_beq_eq_true c3) 9998 vx vy w (List.range n) fun i hi => by
                obtain ⟨a, c, _, _, p1, p2⟩ := hget i (by rw [hl]; exact List.mem_range.1 hi)
                exact ⟨a, c, p1, p2⟩
              have hrb : r = b := by
                rw [Bool.eq_iff_iff, hiff, e3]
                constructor
                · intro h j a c q1 q2
                  have hj := (List.getElem?_eq_some_iff.1 q1).1
                  obtain ⟨a', c', q1', q2', p1, p2⟩ := hget j hj
                  rw [q1] at q1'; cases q1'
                  rw [q2] at q2'; cases q2'
                  have := h j (List.mem_range.2 (by omega))
                  rw [p1, p2] at this; cases this; rfl
                · intro h j hj
                  obtain ⟨a', c', q1', q2', p1, p2⟩ := hget j (by rw [hl]; exact List.mem_range.1 hj)
                  rw [p1, p2, h j a' c' q1' q2']
              subst hrb
              have he : (Op.equal t (.agg vx) (.agg vy)).run P w = .ok r w := by
                rw [equal_depth, run_equalIn_array w 9999 vx vy hu hinfo]; exact hr
              have hg : (eqGuard op t ox oy (.agg vx) (.agg vy)).run P w = .ok () w := by
                cases op <;> simp [eqGuard, c4]
              cases op <;> simp only at H <;> first
                | exact H.elim
                | exact .pure' hI (by simp only [Sem.run_bind, hg, Result.andThen_ok, binOp, he, Sem.run_pure]) (.bool _) H
            · cases hd
          · cases hd
        · cases hd
      · exact H.elim
    · exact H.elim
  · exact bin_ok hI hx hy H
theorem aBin2_det {op : BinOp} {t : TypeId} {x y : AV} {K : AV → Prop} (hB : ∀ {K : AV → Prop}, aBin P op t x y K → ∃ v, K v ∧ ∀ K' : AV → Prop, K' v → aBin P op t x y K') (H : aBin2 P op t x y K) : ∃ v, K v ∧ ∀ K' : AV → Prop, K' v → aBin2 P op t x y K' := by
  unfold aBin2 at *
  split at H
  · unfold aEqA at *
    split at H
    · unfold aEqS aEqO at *
      simp only at H ⊢
      split at H
      · cases op <;> simp only at H <;> first
          | exact H.elim
          | exact ⟨_, H, fun K' hk => hk⟩
      · exact H.elim
    unfold aEqT at *
    split at H
    · obtain ⟨hl, H⟩ := H
      unfold aEqO at *
      split at H
      · cases op <;> simp only at H <;> first
          | exact H.elim
          | exact ⟨_, H, fun K' hk => ⟨hl, hk⟩⟩
      · exact H.elim
    · exact H.elim
  · exact hB H

/-! ### Bytes as a string -/
def bytesOf : List AV → Option (List UInt8)
  | [] => some []
  | .int .u8 n :: r => (bytesOf r).map fun l => UInt8.ofNat n.toNat :: l
  | _ => none
def aB2S (r : Option (List UInt8)) (K : AV → Prop) : Prop := match r with
  | some l => K (.str ⟨l.toArray⟩)
  | none => False
def tb2s (P : Program) (s t : TypeId) : Bool := match P.underlying s, P.underlying t with
  | some (.slice e), some .string => (match P.underlying e with
    | some (.int .u8) => true
    | _ => false)
  | _, _ => false
def aConv2 (P : Program) (s t : TypeId) (x : AV) (K : AV → Prop) : Prop := match x with
  | .sl rows _ => tb2s P s t = true ∧ aB2S (bytesOf rows) K
  | x => aConv P s t x K

theorem bytesOf_get : ∀ {rows : List AV} {l : List UInt8}, bytesOf rows = some l → rows.length = l.length ∧ ∀ (j : Nat) (r : AV), rows[j]? = some r → ∃ n, r = .int .u8 n ∧ l[j]? = some (UInt8.ofNat n.toNat)
  | [], l, h => by
    simp [bytesOf] at h
    subst h; simp
  | x :: r, l, h => by
    unfold bytesOf at h
    split at h
    · rename_i e; cases e
    · rename_i n r' e
      cases e
      obtain ⟨l', hl, rfl⟩ := Option.map_eq_some_iff.1 h
      obtain ⟨h1, h2⟩ := bytesOf_get hl
      refine ⟨by simp [h1], fun j q e => ?_⟩
      cases j with
      | zero => simp at e; subst e; exact ⟨n, rfl, rfl⟩
      | succ j => exact h2 j q (by simpa using e)
    · cases h

theorem run_pushes : ∀ (vs : List Value) (l : List UInt8) (s : ByteArray) (w : World), vs.length = l.length → (∀ (j : Nat) (v : Value) (b : UInt8), vs[j]? = some v → l[j]? = some b → ∃ n : Int, v = .int .u8 n ∧ b = UInt8.ofNat n.toNat) →
    (forIn vs s fun (c : Value) (s : ByteArray) => (match c with
      | .int .u8 n => pure (ForInStep.yield (s.push (UInt8.ofNat n.toNat)))
      | _ => do
        let r ← (stuck "bytesToString: byte expected" : Sem PUnit)
        pure (ForInStep.yield s)) : Sem ByteArray).run P w = .ok ⟨s.data ++ l.toArray⟩ w
  | [], [], s, w, _, _ => by simp
  | v :: vs, b :: l, s, w, hl, hv => by
    obtain ⟨n, rfl, rfl⟩ := hv 0 v b rfl rfl
    have ih := run_pushes vs l (s.push (UInt8.ofNat n.toNat)) w (by simpa using hl) (fun j v b e e' => hv (j + 1) v b (by simpa using e) (by simpa using e'))
    simp only [List.forIn_cons, Sem.run_bind, Sem.run_pure, Result.andThen_ok]
    rw [ih]
    congr 1
    simp [ByteArray.push]
  | [], _ :: _, _, _, h, _ => by simp at h
  | _ :: _, [], _, _, h, _ => by simp at h

theorem conv2_ok (hI : Inv Γ G h w) {src dst : TypeId} {x : AV} {u : Value} (hx : VR G x u) {K : AV → AH → Prop} (H : aConv2 P src dst x fun v => K v h) : SemOK P Γ G w (convert src dst u) K := by
  unfold aConv2 at H
  split at H
  · rename_i rows own
    obtain ⟨ht, H⟩ := H
    unfold aB2S at H
    split at H
    · rename_i l hl
      obtain ⟨h1, h2⟩ := bytesOf_get hl
      unfold tb2s at ht
      split at ht
      · rename_i e hs hd
        split at ht
        · rename_i he
          have hx0 := hx
          cases hx with
          | sl vals hcap hnil hsz hF hv hown =>
            rename_i a cap sz
            have hrow : ∀ r ∈ rows, r.cells.length = 1 := fun r hr => by
              obtain ⟨j, hj⟩ := List.getElem?_of_mem hr
              obtain ⟨n, rfl, _⟩ := h2 j r hj
              rfl
            obtain ⟨olds, o1, o2, o3⟩ := hx0.flatCells (P := P) hI hrow
            have hflat : flat rows = rows := by
              have : ∀ (l : List AV), (∀ r ∈ l, ∃ n, r = AV.int .u8 n) → flat l = l := fun l => by
                induction l with
                | nil => intro _; rfl
                | cons r l ih =>
                  intro hr
                  obtain ⟨n, rfl⟩ := hr r (List.mem_cons_self ..)
                  simp only [flat, List.flatMap_cons, AV.cells] at ih ⊢
                  rw [ih fun r h => hr r (List.mem_cons_of_mem _ h)]; rfl
              exact this rows fun r hr => by
                obtain ⟨j, hj⟩ := List.getElem?_of_mem hr
                obtain ⟨n, hn, _⟩ := h2 j r hj
                exact ⟨n, hn⟩
            have hbyte : ∀ (j : Nat) (v : Value) (b : UInt8), olds[j]? = some v → l[j]? = some b → ∃ n : Int, v = .int .u8 n ∧ b = UInt8.ofNat n.toNat := fun j v b e e' => by
              have hj : j < rows.length := by have := (List.getElem?_eq_some_iff.1 e').1; omega
              obtain ⟨n, hn, hb⟩ := h2 j _ (List.getElem?_eq_getElem hj)
              obtain ⟨v', q1, q2⟩ := o2.get (j := j) (c := .int .u8 n) (by rw [hflat, List.getElem?_eq_getElem hj, hn])
              have : olds[j]? = some v' := by simpa using q1
              rw [e] at this; cases this
              rw [e'] at hb
              exact ⟨n, q2.int_inv, Option.some.inj hb⟩
            refine .pure' hI (u := .string ⟨l.toArray⟩) ?_ (.str _) H
            have o4 := o3 w rfl
            cases a with
            | none =>
              have hz : rows.length = 0 := by have := hnil rfl; omega
              have : l = [] := List.length_eq_zero_iff.1 (by omega)
              subst this
              simp [convert, run_underlying hs, run_underlying hd, run_underlying he, Conv.bytesToString]
              rfl
            | some ad =>
              simp only [Builtin.firstCells, Nat.mul_one] at o4
              have hp := run_pushes (P := P) olds l ByteArray.empty w (by rw [o1, Nat.mul_one, h1]) hbyte
              simp only [convert, Sem.run_bind, run_underlying hs, run_underlying hd, run_underlying he, Result.andThen_ok, Conv.bytesToString, o4]
              rw [List.forIn_toArray]
              erw [hp]
              simp [ByteArray.empty, ByteArray.emptyWithCapacity]
              rfl
        · cases ht
      · cases ht
    · exact H.elim
  · exact conv_ok hI hx H
theorem aConv2_det {s t : TypeId} {x : AV} {K : AV → Prop} (hB : ∀ {K : AV → Prop}, aConv P s t x K → ∃ v, K v ∧ ∀ K' : AV → Prop, K' v → aConv P s t x K') (H : aConv2 P s t x K) : ∃ v, K v ∧ ∀ K' : AV → Prop, K' v → aConv2 P s t x K' := by
  unfold aConv2 at *
  split at H
  · obtain ⟨ht, H⟩ := H
    unfold aB2S at *
    split at H
    · exact ⟨_, H, fun K' hk => ⟨ht, hk⟩⟩
    · exact H.elim
  · exact hB H

/-! ### Cuts of arrays -/
/-- An array's length, its elements' cells. -/
def tarr (P : Program) (t : TypeId) : Option (Nat × Nat) := match P.underlying t with
  | some (.array n e) => (tsz P e).map fun s => (n, s)
  | _ => none
def aCutA (d : Option (Nat × Nat)) (x : AV) (K : AV → Prop) : Prop := match d, x with
  | some (n, s), .ptr (some (i, o)) => K (.ms i o n n s)
  | some (n, s), .eptr cs => cs.length = n ∧ s = 1 ∧ (∀ c ∈ cs, c.one = true) ∧ K (.sl cs .free)
  | _, _ => False
/-- A whole array as a slice; or any other cut. -/
def aSlice2 (P : Program) (t : TypeId) (x : AV) (lo hi mx : Option AV) (K : AV → Prop) : Prop := match x, lo, hi, mx with
  | .ptr a, none, none, none => aCutA (tarr P t) (.ptr a) K
  | .eptr cs, none, none, none => aCutA (tarr P t) (.eptr cs) K
  | x, lo, hi, mx => aSlice P t x lo hi mx K

theorem one_cells {c : AV} (h : c.one = true) : c.cells = [c] := by cases c <;> first | rfl | simp [AV.one] at h

theorem cutA_ok (hI : Inv Γ G h w) {t : TypeId} {x : AV} {v : Value} (hx : VR G x v) {K : AV → AH → Prop} (H : aCutA (tarr P t) x fun v => K v h) : SemOK P Γ G w (Instr.sliceAt t v none none none) K := by
  unfold aCutA at H
  split at H
  · rename_i n s i o hd
    unfold tarr at hd
    split at hd
    · rename_i n' e hu
      obtain ⟨s', hs, e1⟩ := Option.map_eq_some_iff.1 hd
      cases e1
      cases hx with
      | ptr hb =>
        refine .pure' hI (u := .slice (some ⟨_, o, none⟩) n n) ?_ (.ms hb) H
        simp [Instr.sliceAt, run_underlying hu, Instr.sureAddr, Instr.sliceBounds, run_sizeOf' hs, Addr.add]
    · cases hd
  · rename_i n s cs hd
    obtain ⟨hl, rfl, hone, H⟩ := H
    unfold tarr at hd
    split at hd
    · rename_i n' e hu
      obtain ⟨s', hs, e1⟩ := Option.map_eq_some_iff.1 hd
      cases e1
      cases hx with
      | eptr vals hF hv =>
        rename_i b o
        refine .pure' hI (u := .slice (some ⟨b, o, none⟩) n n) ?_ ?_ H
        · simp [Instr.sliceAt, run_underlying hu, Instr.sureAddr, Instr.sliceBounds, run_sizeOf' hs, Addr.add]
        · rw [← hl]
          refine .sl (sz := 1) (fun k _ => vals k) (Nat.le_refl _) (fun e => by cases e) (fun k r hr => by rw [one_cells (hone r (List.mem_of_getElem? hr))]; rfl) (fun k r j c hr hc => ?_) (fun k r j c hr hc => ?_) trivial
          · rw [one_cells (hone r (List.mem_of_getElem? hr))] at hc
            cases j with
            | zero => simp at hc; subst hc; exact ⟨b, o, rfl, by rw [Nat.mul_one, Nat.add_zero]; exact hF k _ hr⟩
            | succ j => simp at hc
          · rw [one_cells (hone r (List.mem_of_getElem? hr))] at hc
            cases j with
            | zero => simp at hc; subst hc; exact hv k _ hr
            | succ j => simp at hc
    · cases hd
  · exact H.elim
theorem slice2_ok (hI : Inv Γ G h w) {t : TypeId} {x : AV} {v : Value} {lo hi mx : Option AV} {ul uh um : Option Value} (hx : VR G x v) (h1 : VRo G lo ul) (h2 : VRo G hi uh) (h3 : VRo G mx um) {K : AV → AH → Prop}
    (H : aSlice2 P t x lo hi mx fun v => K v h) : SemOK P Γ G w (Instr.sliceAt t v ul uh um) K := by
  unfold aSlice2 at H
  split at H
  · cases ul with
    | some _ => exact h1.elim
    | none => cases uh with
      | some _ => exact h2.elim
      | none => cases um with
        | some _ => exact h3.elim
        | none => exact cutA_ok hI hx H
  · cases ul with
    | some _ => exact h1.elim
    | none => cases uh with
      | some _ => exact h2.elim
      | none => cases um with
        | some _ => exact h3.elim
        | none => exact cutA_ok hI hx H
  · exact slice_ok hI hx h1 h2 h3 H
theorem aSlice2_det {t : TypeId} {x : AV} {lo hi mx : Option AV} {K : AV → Prop} (hB : ∀ {K : AV → Prop}, aSlice P t x lo hi mx K → ∃ v, K v ∧ ∀ K' : AV → Prop, K' v → aSlice P t x lo hi mx K') (H : aSlice2 P t x lo hi mx K) :
    ∃ v, K v ∧ ∀ K' : AV → Prop, K' v → aSlice2 P t x lo hi mx K' := by
  have hA : ∀ {y : AV} {K : AV → Prop}, aCutA (tarr P t) y K → ∃ v, K v ∧ ∀ K' : AV → Prop, K' v → aCutA (tarr P t) y K' := fun {y K} H => by
    unfold aCutA at *
    split at H
    · exact ⟨_, H, fun K' hk => hk⟩
    · obtain ⟨a, b, c, H⟩ := H
      exact ⟨_, H, fun K' hk => ⟨a, b, c, hk⟩⟩
    · exact H.elim
  unfold aSlice2 at *
  split at H
  · exact hA H
  · exact hA H
  · exact hB H
theorem aMin_det {x y : AV} {K : AV → Prop} (H : aMin x y K) : ∃ v, K v ∧ ∀ K' : AV → Prop, K' v → aMin x y K' := by
  unfold aMin at *
  split at H
  · exact ⟨_, H.2, fun K' hk => ⟨H.1, hk⟩⟩
  · exact H.elim
theorem aMax_det {x y : AV} {K : AV → Prop} (H : aMax x y K) : ∃ v, K v ∧ ∀ K' : AV → Prop, K' v → aMax x y K' := by
  unfold aMax at *
  split at H
  · exact ⟨_, H.2, fun K' hk => ⟨H.1, hk⟩⟩
  · exact H.elim
end
end Go.Abs

/- Arrays of one's own: made, appended to, cleared; ranges over maps; a text's bytes; is a slice nil. It says nothing of any program; no conditions. -/
set_option linter.unusedSimpArgs false
set_option linter.unusedVariables false
namespace Go.Abs
open Go Go.RowKit

section
variable {P : Program} {Γ : Nat → Option (List AV)} {G : Gh} {h : AH} {w : World} {N : Nat} {σ : Tm}

/-! ### Zero elements -/
def zrow (k : Nat) (z : List AV) : List AV := (List.replicate k z).flatten
theorem zrow_length (k : Nat) (z : List AV) : (zrow k z).length = k * z.length := by
  induction k with
  | zero => simp [zrow]
  | succ k ih => simp only [zrow, List.replicate_succ, List.flatten_cons, List.length_append] at ih ⊢; rw [ih, Nat.succ_mul]; omega
theorem zrow_get (z : List AV) (hz : z ≠ []) : ∀ (k j : Nat), j < k * z.length → (zrow k z)[j]? = z[j % z.length]?
  | 0, j, h => by simp at h
  | k + 1, j, h => by
    have hl : 0 < z.length := List.length_pos_iff.2 hz
    simp only [zrow, List.replicate_succ, List.flatten_cons]
    by_cases hj : j < z.length
    · rw [List.getElem?_append_left hj, Nat.mod_eq_of_lt hj]
    · rw [List.getElem?_append_right (by omega)]
      have h' : j < k * z.length + z.length := by rw [← Nat.succ_mul]; exact h
      have := zrow_get z hz k (j - z.length) (by omega)
      rw [zrow] at this
      rw [this, show j % z.length = (j - z.length) % z.length from Nat.mod_eq_sub_mod (by omega)]
theorem zrow_VR (k : Nat) (zc : Array Value) (hz : zc.size ≠ 0) : VRs G (zrow k (zc.toList.map ofV1)) ((Array.range (k * zc.size)).map (zc[· % zc.size]!)) := by
  have hne : zc.toList.map ofV1 ≠ [] := fun e => hz (by have := congrArg List.length e; simpa using this)
  have hlen : (zc.toList.map ofV1).length = zc.size := by simp
  refine VRs.of_get (by simp [zrow_length]) fun j c v e e' => ?_
  have hj : j < k * zc.size := by have := (List.getElem?_eq_some_iff.1 e).1; rwa [zrow_length, hlen] at this
  rw [zrow_get _ hne k j (by rwa [hlen]), hlen] at e
  obtain ⟨u, k1, k2⟩ := (ofV1s_VR G zc).get e
  have hm : j % zc.size < zc.size := Nat.mod_lt _ (by omega)
  simp only [Array.getElem?_map, Array.getElem?_range, hj, if_true, Option.map_some] at e'
  cases e'
  rw [Array.getElem?_eq_getElem hm] at k1
  cases k1
  simpa [hm] using k2

/-! ### make -/
def aMakeSlice (P : Program) (t : TypeId) (l c : AV) (h : AH) (K : AV → AH → Prop) : Prop :=
  match P.underlying t with
  | some (.slice e) => (match tsz P e, tbytes P e, tzero P e with
    | some n, some by_, some z => (match l, c with
      | .int _ l, .int _ c => n ≠ 0 ∧ z.cells.size = n ∧ 0 ≤ l ∧ l ≤ c ∧ c ≤ 9223372036854775807 ∧ c * by_ ≤ 140737488355328 ∧ K (.ms h.length 0 l.toNat c.toNat n) (h ++ [.row (zrow c.toNat (z.cells.toList.map ofV1)) e])
      | _, _ => False)
    | _, _, _ => False)
  | _ => False
theorem makeSlice_ok (hI : Inv Γ G h w) {t : TypeId} {l c : AV} {u v : Value} (hl : VR G l u) (hc : VR G c v) {K : AV → AH → Prop} (H : aMakeSlice P t l c h K) : SemOK P Γ G w (Instr.makeSlice t u v) K := by
  unfold aMakeSlice at H
  split at H
  · rename_i e ht
    split at H
    · rename_i n by_ z hn hb hz
      split at H
      · rename_i kl l kc c
        obtain ⟨h0, hzn, h1, h2, h3, h4, H⟩ := H
        cases hl; cases hc
        obtain ⟨l, rfl⟩ := Int.eq_ofNat_of_zero_le h1
        obtain ⟨c, rfl⟩ := Int.eq_ofNat_of_zero_le (Int.le_trans h1 h2)
        simp only [Int.toNat_natCast] at H
        obtain ⟨i, hi⟩ : ∃ i, P.info? e = some i := by unfold tsz at hn; cases hi : P.info? e with
          | none => simp [hi] at hn
          | some i => exact ⟨i, rfl⟩
        have hisz : i.size = n := by simpa [tsz, hi] using hn
        have hiby : i.bytes = by_ := by simpa [tbytes, hi] using hb
        have hiz : i.zero = some z := by simpa [tzero, hi] using hz
        subst hisz hiby
        have w1 : IntKind.i64.wrap (l : Int) = l := IntWalk.i64_in _ ⟨by omega, by omega⟩
        have w2 : IntKind.i64.wrap (c : Int) = c := IntWalk.i64_in _ ⟨by omega, by omega⟩
        have h4' : c * i.bytes ≤ 140737488355328 := by have h5 : ((c * i.bytes : Nat) : Int) ≤ 140737488355328 := by rw [Int.natCast_mul]; exact h4
                                                       omega
        have hb1 : ¬ ((281474976710656 : Int) < (i.bytes : Int) * (c : Int)) := by rw [Int.mul_comm]; omega
        have hlc : ¬ (c < l) := by omega
        have hroom : ¬ (140737488355328 < c * i.bytes) := by omega
        have hrun : (Instr.makeSlice t (.int kl l) (.int kc c)).run P w = .ok (.slice (some ⟨w.heap.size, 0, none⟩) l c) (w.alloc (.cells ((Array.range (c * i.size)).map (z.cells[· % z.cells.size]!)) e)) := by
          by_cases hc0 : c = 0
          · have hl0 : l = 0 := by omega
            subst hc0 hl0
            have w0 : IntKind.i64.wrap 0 = 0 := by decide
            simp [Instr.makeSlice, run_underlying ht, asInt, asIntOf, sizeOf, typeInfo, hi, w0, askRoom, roomBytes, newRow]
            simp [show Array.range 0 = #[] from rfl]
          · have hcs : ¬ (c * i.size = 0) := by rw [Nat.mul_eq_zero]; omega
            simp [Instr.makeSlice, run_underlying ht, asInt, asIntOf, sizeOf, typeInfo, zeroValue, hi, hiz, w1, w2, hlc, hb1, hroom, hc0, h0, askRoom, roomBytes, newRow]
            rw [if_neg (by omega), if_neg hcs]
        refine ⟨_, _, _, _, _, hrun, hI.add_le _, newVar_ok hI (t := e) (by rw [← hzn]; exact zrow_VR c z.cells (by omega)), .ms (Gh.add_same _ _ _), H⟩
      · exact H.elim
    · exact H.elim
  · exact H.elim

/-! ### clear -/
def aClear (P : Program) (t : TypeId) (x : AV) (h : AH) (K : AV → AH → Prop) : Prop :=
  match P.underlying t, x with
  | some (.slice e), .sl [] _ => K (.tuple []) h
  | some (.slice e), .ms i off len _ sz => (match tsz P e, tzero P e, h[i]? with
    | some n, some z, some (.row cs T) => n = sz ∧ n ≠ 0 ∧ z.cells.size = n ∧ (∀ c ∈ z.cells.toList, c.oneCell' = true) ∧ off + len * n ≤ cs.length ∧ K (.tuple []) (h.set i (.row (splice cs off (zrow len (z.cells.toList.map ofV1))) T))
    | _, _, _ => False)
  | _, _ => False

/-! ### Writing cells of a row -/
theorem Inv.putRow (hI : Inv Γ G h w) {i : Nat} {cs xs : List AV} {T : TypeId} (hrow : h[i]? = some (.row cs T)) {o : Nat} (hfit : o + xs.length ≤ cs.length) {news : List Value} (hv : VRs G xs news.toArray) {b : Nat} {vals : Array Value}
    (h1 : G.ρ i = some b) (h2 : w.heap[b]? = some (.cells vals T (0, 0))) (h3 : VRs G cs vals) :
    Inv Γ G (h.set i (.row (splice cs o xs) T)) (w.setRow b (vals.toList.take o ++ news ++ vals.toList.drop (o + news.length)).toArray) := by
  have hnew := setRow_heap w b vals (vals.toList.take o ++ news ++ vals.toList.drop (o + news.length)).toArray T (0, 0) h2
  refine hI.write (w' := w.setRow b (vals.toList.take o ++ news ++ vals.toList.drop (o + news.length)).toArray) h1 (by simp [World.setRow]) rfl rfl rfl (fun k hk' => heap_setRow_ne w b k _ hk') _ ?_ ?_ (by rw [h2]; simp) (by rw [hrow]; simp)
  · exact ⟨b, _, h1, hnew, by simpa using h3.splice hv hfit⟩
  · intro D hD
    obtain ⟨l, k1, _⟩ := hI.lp b D hD
    rw [h2] at k1; cases k1

theorem clear_ok (hI : Inv Γ G h w) {t ty : TypeId} {x : AV} {u : Value} (hx : VR G x u) {K : AV → AH → Prop} (H : aClear P t x h K) : SemOK P Γ G w (Builtin.clear_ #[t] ty #[u]) K := by
  have hun : VR G (.tuple []) (.tuple #[]) := .tuple rfl (fun j c e => by simp at e)
  unfold aClear at H
  split at H
  · rename_i e own ht
    cases hx with
    | sl vals hcap hnil hsz hF hv hown =>
      rename_i a cap sz
      cases a with
      | none => exact .pure' hI (by simp [Builtin.clear_, run_underlying ht]) hun H
      | some a => exact .pure' hI (by simp [Builtin.clear_, run_underlying ht]) hun H
  · rename_i e i off len cap sz ht
    split at H
    · rename_i n z cs T hn hz hrow
      obtain ⟨rfl, h0, hzn, hone, hfit, H⟩ := H
      obtain ⟨b, vals, h1, h2, h3⟩ := hI.row hrow
      cases hx with
      | ms hb =>
        rw [h1] at hb; cases hb
        have hzv : VRs G (zrow len (z.cells.toList.map ofV1)) (Builtin.zeroCells z.cells len) := zrow_VR len z.cells (by omega)
        have hzl : (zrow len (z.cells.toList.map ofV1)).length = len * n := by rw [zrow_length]; simp [hzn]
        by_cases hl0 : len = 0
        · subst hl0
          have e0 : splice cs off (zrow 0 (z.cells.toList.map ofV1)) = cs := by simp [zrow, splice]
          rw [e0] at H
          have hset : h.set i (.row cs T) = h := by
            apply List.ext_getElem?
            intro j
            rw [List.getElem?_set]
            split
            · rename_i hij; subst hij
              rw [if_pos (List.getElem?_eq_some_iff.1 hrow).1, hrow]
            · rfl
          rw [hset] at H
          exact .pure' hI (by simp [Builtin.clear_, run_underlying ht]) hun H
        · have hones : ∀ v ∈ (Builtin.zeroCells z.cells len).toList, v.oneCell' = true := fun v hv => by
            simp only [Builtin.zeroCells, Array.toList_map, List.mem_map] at hv
            obtain ⟨q, _, rfl⟩ := hv
            have hm : q % z.cells.size < z.cells.size := Nat.mod_lt _ (by omega)
            refine hone _ ?_
            simp [hm]
          have hst := run_storeCells_at P b off T (Builtin.zeroCells z.cells len).toList 0 vals w h2 (by have := h3.1; have := hzv.1; simp only [Array.length_toList]; omega) hones
          simp only [Nat.add_zero] at hst
          refine ⟨_, _, G, _, _, ?_, Gh.le.refl G, hI.putRow hrow (by rw [hzl]; exact hfit) (news := (Builtin.zeroCells z.cells len).toList) (by simpa using hzv) h1 h2 h3, hun, H⟩
          have hs : (storeCells ⟨b, off, none⟩ (Builtin.zeroCells z.cells len).toList).run P w = _ := hst
          have hm : ∀ {α : Type} (A B C : Sem α), (match (Value.slice (some ⟨b, off, none⟩) len cap) with
            | .slice _ 0 _ => A
            | _ => B) = B := fun A B C => by
              cases len with
              | zero => exact absurd rfl hl0
              | succ k => rfl
          cases len with
          | zero => exact absurd rfl hl0
          | succ k => simp [Builtin.clear_, run_underlying ht, run_zero' hz, hs]
    · exact H.elim
  · exact H.elim

/-! ### Ranges over maps -/
def aRange (P : Program) (t : TypeId) (x : AV) (h : AH) (K : AV → AH → Prop) : Prop :=
  match P.underlying t, x with
  | some (.map _ _), .map none => K (.ptr (some (h.length, 0))) (h ++ [.iter none 0 []])
  | some (.map _ _), .map (some m) => (match h[m]? with
    | some (.map _ clk) => K (.ptr (some (h.length, 0))) (h ++ [.iter (some m) clk []])
    | _ => False)
  | _, _ => False
theorem range_ok (hI : Inv Γ G h w) {t : TypeId} {x : AV} {u : Value} (hx : VR G x u) {K : AV → AH → Prop} (H : aRange P t x h K) : SemOK P Γ G w (Instr.range t u) K := by
  unfold aRange at H
  split at H
  · rename_i kt et ht
    cases hx
    refine ⟨.pointer (some ⟨w.heap.size, 0, none⟩), w.alloc (.mapIter none 0 #[] 0), G.add h.length w.heap.size, _, _, by simp [Instr.range, run_underlying ht, newObj, Sem.run], hI.add_le _, hI.alloc _ (.iter none 0 []) ⟨w.heap.size, none, Gh.add_same _ _ _, heap_alloc_new w _, rfl⟩, .ptr (Gh.add_same _ _ _), H⟩
  · rename_i kt et m ht
    split at H
    · rename_i ents clk hm
      obtain ⟨b, es, k1, k2, k3, k4⟩ := hI.obj m _ hm
      cases hx with
      | map hb =>
        rw [k1] at hb; cases hb
        refine ⟨.pointer (some ⟨w.heap.size, 0, none⟩), w.alloc (.mapIter (some b) clk #[] clk), G.add h.length w.heap.size, _, _, by simp [Instr.range, run_underlying ht, newObj, run_getObj_map _ _ _ _ k2, Sem.run], hI.add_le _,
          hI.alloc _ (.iter (some m) clk []) ⟨w.heap.size, some b, Gh.add_same _ _ _, heap_alloc_new w _, b, rfl, (hI.add_le _).ρ _ _ k1⟩, .ptr (Gh.add_same _ _ _), H⟩
    · exact H.elim
  · exact H.elim

def aNxt (it : AV) (h : AH) (K : AV → AH → Prop) : Prop := match it with
  | .ptr (some (i, 0)) => (match h[i]? with
    | some (.iter none _ _) => K (.tuple [.bool false]) h
    | some (.iter (some m) clk seen) => (match h[m]? with
      | some (.map ents clk') => clk' = clk ∧ (∀ e ∈ ents, e.1 < clk) ∧ ((∀ e ∈ ents, e.1 ∈ seen) → K (.tuple [.bool false]) h) ∧ ∀ e ∈ ents, e.1 ∉ seen → K (.tuple [.bool true, e.2.1, e.2.2]) (h.set i (.iter (some m) clk (seen ++ [e.1])))
      | _ => False)
    | _ => False)
  | _ => False
theorem VR.tup1 {x : AV} {u : Value} (hx : VR G x u) : VR G (.tuple [x]) (.tuple #[u]) := .tuple rfl (fun j c e => by
  cases j with
  | zero => simp at e; subst e; exact hx
  | succ j => simp at e)
theorem VR.tup2 {x y : AV} {u v : Value} (hx : VR G x u) (hy : VR G y v) : VR G (.tuple [x, y]) (.tuple #[u, v]) := .tuple rfl (fun j c e => by
  match j with
  | 0 => simp at e; subst e; exact hx
  | 1 => simp at e; subst e; exact hy
  | j + 2 => simp at e)
theorem VR.tup3 {x y z : AV} {u v r : Value} (hx : VR G x u) (hy : VR G y v) (hz : VR G z r) : VR G (.tuple [x, y, z]) (.tuple #[u, v, r]) := .tuple rfl (fun j c e => by
  match j with
  | 0 => simp at e; subst e; exact hx
  | 1 => simp at e; subst e; exact hy
  | 2 => simp at e; subst e; exact hz
  | j + 3 => simp at e)
theorem Inv.setIter (hI : Inv Γ G h w) {i b : Nat} (hb : G.ρ i = some b) {m0 : Option Nat} {s0 c0 : Nat} {q0 : Array Nat} (hw : w.heap[b]? = some (.mapIter m0 s0 q0 c0)) {m : Option Nat} {clk : Nat} {seen : List Nat} {mb : Option Nat}
    (hm : match m with
      | none => mb = none
      | some j => ∃ c, mb = some c ∧ G.ρ j = some c) (hfz : h[i]? ≠ some .frozen) : Inv Γ G (h.set i (.iter m clk seen)) (w.putObj b (.mapIter mb clk seen.toArray clk)) := by
  have hlt := lt_of_heap hw
  have hnew : (w.putObj b (.mapIter mb clk seen.toArray clk)).heap[b]? = some (.mapIter mb clk seen.toArray clk) := by simp [World.putObj, hlt]
  refine hI.write (w' := w.putObj b (.mapIter mb clk seen.toArray clk)) hb (by simp [World.putObj]) rfl rfl rfl (fun k hk => World.putObj_heap_other hk) _ ⟨b, mb, hb, hnew, hm⟩ (fun D hD => ?_) (by rw [hw]; simp) hfz
  obtain ⟨l, e1, _⟩ := hI.lp b D hD
  rw [hw] at e1; cases e1
theorem next_ok (hI : Inv Γ G h w) {it : AV} {u : Value} {ty : TypeId} (hx : VR G it u) {K : AV → AH → Prop} (H : aNxt it h K) : SemOK P Γ G w (Instr.next u false ty) K := by
  unfold aNxt at H
  split at H
  · rename_i i
    cases hx with
    | ptr hb =>
    rename_i r
    split at H
    · rename_i clk seen hi
      obtain ⟨b, mb, k1, k2, k3⟩ := hI.obj i _ hi
      rw [k1] at hb; cases hb
      simp only at k3
      subst k3
      exact .pure' hI (by simp [Instr.next, getObj, Sem.run, k2]) (VR.tup1 (.bool false)) H
    · rename_i m clk seen hi
      obtain ⟨b, mb, k1, k2, k3⟩ := hI.obj i _ hi
      rw [k1] at hb; cases hb
      obtain ⟨bm, rfl, k4⟩ := k3
      split at H
      · rename_i ents clk' hm
        obtain ⟨rfl, hold, H0, H1⟩ := H
        obtain ⟨bm', es, m1, m2, m3, m4⟩ := hI.obj m _ hm
        rw [k4] at m1; cases m1
        have hent : ∀ x ∈ es.toList, ∃ e ∈ ents, e.1 = x.born ∧ VR G e.2.1 x.key ∧ VR G e.2.2 x.val := fun x hx => by
          obtain ⟨j, hj, hjx⟩ := List.mem_iff_getElem.1 hx
          obtain ⟨e, he⟩ : ∃ e, ents[j]? = some e := ⟨_, List.getElem?_eq_getElem (by rw [m3]; simpa using hj)⟩
          obtain ⟨q1, q2, q3⟩ := m4 j e x he (by rw [← hjx]; simp [Array.getElem?_eq_getElem (show j < es.size by simpa using hj)])
          exact ⟨e, List.mem_of_getElem? he, q1.symm, q2, q3⟩
        have hent' : ∀ e ∈ ents, ∃ x ∈ es.toList, x.born = e.1 := fun e he => by
          obtain ⟨j, hj⟩ := List.mem_iff_getElem?.1 he
          have hjl := (List.getElem?_eq_some_iff.1 hj).1
          exact ⟨es[j], by simp, (m4 j e _ hj (Array.getElem?_eq_getElem (by omega))).1⟩
        have hmem : ∀ x, x ∈ (leftOf es seen.toArray).toList ↔ x ∈ es.toList ∧ x.born ∉ seen := fun x => by simp [leftOf]
        rcases run_next_at (P := P) w ty _ bm clk' clk' seen.toArray es clk' k2 m2 (fun x hx => by obtain ⟨e, he, q1, _⟩ := hent x hx; rw [← q1]; exact hold e he) (Nat.le_refl _) with ⟨hs, hrun⟩ | ⟨x, hx, w1, hw1, hrun⟩
        · refine .pure' hI hrun (VR.tup1 (.bool false)) (H0 fun e he => ?_)
          obtain ⟨x, hx, q1⟩ := hent' e he
          refine Classical.byContradiction fun hn => ?_
          have : x ∈ (leftOf es seen.toArray).toList := (hmem x).2 ⟨hx, by rw [q1]; exact hn⟩
          rw [show leftOf es seen.toArray = #[] from Array.eq_empty_of_size_eq_zero hs] at this
          cases this
        · obtain ⟨x1, x2⟩ := (hmem x).1 hx
          obtain ⟨e, he, q1, q2, q3⟩ := hent x x1
          have hI1 : Inv Γ G h w1 := by rcases hw1 with rfl | rfl <;> first | exact hI | exact hI.drew
          have k2' : w1.heap[r]? = some (Obj.mapIter (some bm) clk' seen.toArray clk') := by rcases hw1 with rfl | rfl <;> exact k2
          have hI2 := hI1.setIter k1 k2' (m := some m) (clk := clk') (seen := seen ++ [e.1]) (mb := some bm) ⟨bm, rfl, k4⟩ (by rw [hi]; simp)
          refine ⟨_, _, G, _, _, hrun, Gh.le.refl G, ?_, VR.tup3 (.bool true) q2 q3, H1 e he (by rw [q1]; exact x2)⟩
          have : (seen ++ [e.1]).toArray = seen.toArray.push x.born := by rw [q1]; simp
          rw [this] at hI2
          exact hI2
      · exact H.elim
    · exact H.elim
  · exact H.elim

def aEntry (it : AV) (h : AH) (K : AV → Prop) : Prop := match it with
  | .ptr (some (i, 0)) => (match h[i]? with
    | some (.iter (some m) clk seen) => (match h[m]?, seen.getLast? with
      | some (.map ents clk'), some s => clk' = clk ∧ (match ents.find? (·.1 == s) with
        | some e => K (.tuple [e.2.1, e.2.2])
        | none => False)
      | _, _ => False)
    | _ => False)
  | _ => False
theorem find_ents : ∀ (ents : List (Nat × AV × AV)) (es : List MapEntry), ents.length = es.length → (∀ (j : Nat) (e : Nat × AV × AV) (x : MapEntry), ents[j]? = some e → es[j]? = some x → x.born = e.1 ∧ VR G e.2.1 x.key ∧ VR G e.2.2 x.val) →
    ∀ {s : Nat} {e : Nat × AV × AV}, ents.find? (·.1 == s) = some e → ∃ x, es.find? (·.born == s) = some x ∧ VR G e.2.1 x.key ∧ VR G e.2.2 x.val
  | [], _, _, _, _, _, h => by simp at h
  | a :: ents, [], hl, _, _, _, _ => by simp at hl
  | a :: ents, y :: es, hl, hv, s, e, h => by
    obtain ⟨h1, h2, h3⟩ := hv 0 a y rfl rfl
    rw [List.find?_cons] at h ⊢
    rw [h1]
    split at h
    · rename_i hs
      cases h
      exact ⟨y, rfl, h2, h3⟩
    · exact find_ents ents es (by simpa using hl) (fun j e x he hx => hv (j + 1) e x (by simpa using he) (by simpa using hx)) h
theorem entry_ok (hI : Inv Γ G h w) {it : AV} {u : Value} (hx : VR G it u) {K : AV → AH → Prop} (H : aEntry it h fun v => K v h) : SemOK P Γ G w (Instr.entry u) K := by
  unfold aEntry at H
  split at H
  · rename_i i
    cases hx with
    | ptr hb =>
    split at H
    · rename_i m clk seen hi
      obtain ⟨b, mb, k1, k2, k3⟩ := hI.obj i _ hi
      rw [k1] at hb; cases hb
      obtain ⟨bm, rfl, k4⟩ := k3
      split at H
      · rename_i ents clk' s hm hs
        obtain ⟨rfl, H⟩ := H
        obtain ⟨bm', es, m1, m2, m3, m4⟩ := hI.obj m _ hm
        rw [k4] at m1; cases m1
        split at H
        · rename_i e he
          obtain ⟨x, q1, q2, q3⟩ := find_ents (G := G) ents es.toList (by simpa using m3) (fun j e x he hx => m4 j e x he (by simpa using hx)) he
          rw [Array.find?_toList] at q1
          have hbk : seen.toArray.back? = some s := by simpa using hs
          refine .pure' hI ?_ (VR.tup2 q2 q3) H
          simp only [Instr.entry, getObj, Sem.run_bind, Sem.run, k2, m2, Result.andThen, hbk, bne_self_eq_false, Bool.false_eq_true, if_false, q1]
          rfl
        · exact H.elim
      · exact H.elim
    · exact H.elim
  · exact H.elim

/-! ### A byte of a text -/
def aIndex (P : Program) (t : TypeId) (x i : AV) (K : AV → Prop) : Prop :=
  match P.underlying t, x, i with
  | some .string, .str s, .int _ n => 0 ≤ n ∧ ∃ b, s[n.toNat]? = some b ∧ K (.int .u8 b.toNat)
  | some (.array len e), .agg cs, .int _ n => 0 ≤ n ∧ n < len ∧ (match tsz P e with
    | some s => aLd P e (cs.drop (n.toNat * s)) K
    | none => False)
  | _, _, _ => False
theorem index_ok (hI : Inv Γ G h w) {t : TypeId} {x i : AV} {u v : Value} (hx : VR G x u) (hi : VR G i v) {K : AV → AH → Prop} (H : aIndex P t x i fun v => K v h) : SemOK P Γ G w (Instr.index t u v) K := by
  unfold aIndex at H
  split at H
  · rename_i s k n ht
    obtain ⟨h1, b, h2, H⟩ := H
    cases hx; cases hi
    exact .pure' hI (by simp [Instr.index, run_underlying ht, asIntOf, h1, h2]) (.int _ _) H
  · rename_i len e cs k n ht
    obtain ⟨h1, h2, H⟩ := H
    split at H
    · rename_i s hs
      cases hx with
      | agg hl hv =>
        cases hi
        obtain ⟨u, av, r, hv', hk⟩ := part_ok (P := P) ⟨hl, hv⟩ (n.toNat * s) H w
        exact ⟨u, w, G, av, h, by simp [Instr.index, run_underlying ht, asIntOf, h1, h2, run_sizeOf' hs, r], Gh.le.refl G, hI, hv', hk⟩
    · exact H.elim
  · exact H.elim

/-! ### Is a slice nil -/
def isNilC : Operand → Bool
  | .const (.slice none 0 0) => true
  | _ => false
def aNilC (P : Program) (t : TypeId) (op : BinOp) (x : AV) (K : AV → Prop) : Prop :=
  match P.underlying t, op, x with
  | some (.slice _), .eql, .sl rows _ => (rows = [] → K (.bool true)) ∧ K (.bool false)
  | some (.slice _), .neq, .sl rows _ => (rows = [] → K (.bool false)) ∧ K (.bool true)
  | some (.slice _), .eql, .ms .. => K (.bool false)
  | some (.slice _), .neq, .ms .. => K (.bool true)
  | _, _, _ => False
theorem eqGuard_sl {op : BinOp} {t : TypeId} {ox oy : Operand} {a : Option Addr} {n c : Nat} {v : Value} {e : TypeId} (ht : P.underlying t = some (.slice e)) : (eqGuard op t ox oy (.slice a n c) v).run P w = .ok () w := by
  cases op <;> simp [eqGuard]
theorem equalIn_nil (d : Nat) {t e : TypeId} {a : Option Addr} {n c : Nat} (ht : P.underlying t = some (.slice e)) (w : World) : (Op.equalIn (d + 1) t (.slice a n c) (.slice none 0 0)).run P w = .ok a.isNone w := by
  cases a <;> simp only [Op.equalIn, Sem.run_bind, run_underlying ht, Result.andThen_ok, Sem.run_pure, Option.isNone]
theorem nilC_ok (hI : Inv Γ G h w) {op : BinOp} {t : TypeId} {ox oy : Operand} {x : AV} {u : Value} (hx : VR G x u) {K : AV → AH → Prop} (H : aNilC P t op x fun v => K v h) :
    SemOK P Γ G w (do eqGuard op t ox oy u (.slice none 0 0); binOp op t u (.slice none 0 0)) K := by
  have he : ∀ (a : Option Addr) (n c : Nat) (e : TypeId), P.underlying t = some (.slice e) → (Op.equal t (.slice a n c) (.slice none 0 0)).run P w = .ok a.isNone w := fun a n c e ht => by
    rw [equal_depth]
    exact equalIn_nil 9999 ht w
  have key : ∀ (a : Option Addr) (n c : Nat) (e : TypeId), P.underlying t = some (.slice e) → (op = .eql ∨ op = .neq) →
      (do eqGuard op t ox oy (.slice a n c) (.slice none 0 0); binOp op t (.slice a n c) (.slice none 0 0) : Sem Value).run P w = .ok (.bool (if op = .eql then a.isNone else !a.isNone)) w := fun a n c e ht ho => by
    rcases ho with rfl | rfl <;> simp [eqGuard_sl (P := P) (w := w) ht, binOp, he a n c e ht]
  unfold aNilC at H
  split at H
  · rename_i e rows own ht
    cases hx with
    | sl vals hcap hnil hsz hF hv hown =>
      rename_i a cap sz
      cases a with
      | none =>
        have hr : rows = [] := List.eq_nil_of_length_eq_zero (by have := hnil rfl; omega)
        exact .pure' hI (key none _ _ e ht (.inl rfl)) (.bool true) (H.1 hr)
      | some a => exact .pure' hI (key (some a) _ _ e ht (.inl rfl)) (.bool false) H.2
  · rename_i e rows own ht
    cases hx with
    | sl vals hcap hnil hsz hF hv hown =>
      rename_i a cap sz
      cases a with
      | none =>
        have hr : rows = [] := List.eq_nil_of_length_eq_zero (by have := hnil rfl; omega)
        exact .pure' hI (key none _ _ e ht (.inr rfl)) (.bool false) (H.1 hr)
      | some a => exact .pure' hI (key (some a) _ _ e ht (.inr rfl)) (.bool true) H.2
  · rename_i e _ _ _ _ _ ht
    cases hx with
    | ms hb => exact .pure' hI (key _ _ _ e ht (.inl rfl)) (.bool false) H
  · rename_i e _ _ _ _ _ ht
    cases hx with
    | ms hb => exact .pure' hI (key _ _ _ e ht (.inr rfl)) (.bool true) H
  · exact H.elim

/-! ### Appending to arrays of one's own; literals as arrays of one's own -/
def aAppendM (P : Program) (t u : TypeId) (s x : AV) (h : AH) (K : AV → AH → Prop) : Prop :=
  match P.underlying t, P.underlying u with
  | some _, some (.int _) => False
  | some (.slice e), some _ => (match tsz P e, tbytes P e, tzero P e with
    | some n, some by_, some z => n ≠ 0 ∧ z.cells.size = n ∧ ∃ xs, SrcIs x h xs ∧ RowsOK n xs ∧
        (match s with
         | .sl [] .full => xs.length ≤ 9223372036854775807 ∧ xs.length * by_ ≤ 140737488355328 ∧ (xs = [] → K s h) ∧ (xs ≠ [] → ∀ c, xs.length ≤ c → K (.ms h.length 0 xs.length c n) (h ++ [.row (flat xs ++ List.replicate ((c - xs.length) * n) .top) e]))
         | .ms i off len cap sz => sz = n ∧ len + xs.length ≤ 9223372036854775807 ∧ (len + xs.length) * by_ ≤ 140737488355328 ∧ len ≤ cap ∧ (match h[i]? with
           | some (.row cs T) => off + cap * n ≤ cs.length ∧ (len + xs.length ≤ cap → K (.ms i off (len + xs.length) cap n) (h.set i (.row (splice cs (off + len * n) (flat xs)) T))) ∧
              (cap < len + xs.length → ∀ c, len + xs.length ≤ c → K (.ms h.length 0 (len + xs.length) c n) (h ++ [.row ((cs.drop off).take (len * n) ++ flat xs ++ List.replicate ((c - (len + xs.length)) * n) .top) e]))
           | _ => False)
         | _ => False)
    | _, _, _ => False)
  | _, _ => False
theorem VRs.tops (G : Gh) (a : Array Value) {k : Nat} (hk : a.size = k) : VRs G (List.replicate k .top) a := ⟨by simp [hk], fun j c e => by
  rw [List.getElem?_replicate] at e
  split at e
  · cases e; exact .top _
  · cases e⟩
theorem appendM_ok (hI : Inv Γ G h w) {t u ty : TypeId} {s x : AV} {vs vx : Value} (hs : VR G s vs) (hx : VR G x vx) {K : AV → AH → Prop} (H : aAppendM P t u s x h K) :
    SemOK P Γ G w (Builtin.append_ #[t, u] ty #[vs, vx]) K := by
  unfold aAppendM at H
  split at H
  · exact H.elim
  · rename_i e d hd ht hu
    split at H
    · rename_i n by_ z hn hb hz
      obtain ⟨h0, hzn, xs, hsrc, hxok, H⟩ := H
      obtain ⟨news, q1, q2, q3, q4⟩ := src_ok (P := P) hI hx hsrc h0 hxok
      have hfl : (flat xs).length = xs.length * n := flat_length (fun r hr => (hxok r hr).1)
      have hnone : ∀ v ∈ news, v.oneCell' = true := by
        have := q2.oneCells (fun c hc => by
          simp only [flat, List.mem_flatMap] at hc
          obtain ⟨r, hr, hc⟩ := hc
          exact (hxok r hr).2 c hc)
        simpa using this
      split at H
      · obtain ⟨h63, hby, H0, H1⟩ := H
        cases hs with
        | sl vals hcap hnil hsz hF hv hown =>
          rename_i base cap sz
          have hc0 : cap = 0 := hown
          subst hc0
          by_cases hm : xs = []
          · subst hm
            have hnews : news = [] := List.eq_nil_of_length_eq_zero (by simpa using q1)
            subst hnews
            have hr := run_append_fits (P := P) (w := w) (ty := ty) ht hu (fun k e => hd k e) hn (base := base) (sLen := 0) (sCap := 0) (m := 0) (x := vx) (news := []) q3 (q4 w rfl) (by omega) (w' := w) (fun a _ => by simp [storeCells]) (fun _ => rfl)
            exact ⟨_, w, G, _, h, hr, Gh.le.refl G, hI, .sl vals hcap hnil hsz hF hv hown, H0 rfl⟩
          · have hpos : 0 < xs.length := List.length_pos_iff.2 hm
            have hr := run_append_moves (P := P) (w := w) (ty := ty) ht hu (fun k e => hd k e) hn hb hz (base := base) (sLen := 0) (sCap := 0) (m := xs.length) (x := vx) (olds := []) q3 (by cases base <;> simp [Builtin.firstCells, loadCells, loadCellsFrom]) (q4 w.drew rfl) (by omega) (by omega) (by simpa using hby)
            have hge := grownCap_ge w (0 + xs.length) 0 e
            generalize grownCap w (0 + xs.length) 0 e = nc at hr hge
            simp only [Nat.zero_add] at hr hge
            refine ⟨_, _, _, _, _, hr, ?_, newVar_ok hI.drew (t := e) (cs := flat xs ++ List.replicate ((nc - xs.length) * n) .top) ?_, .ms ?_, H1 hm nc hge⟩
            · exact hI.drew.add_le _
            · have := q2.append (VRs.tops G (Builtin.zeroCells z.cells (nc - xs.length)) (k := (nc - xs.length) * n) (by rw [size_zeroCells, hzn]))
              simpa using this
            · exact Gh.add_same _ _ _
      · rename_i i off len cap sz
        obtain ⟨rfl, h63, hby, hlc, H⟩ := H
        split at H
        · rename_i cs T hrow
          obtain ⟨hfit, H0, H1⟩ := H
          obtain ⟨b, vals, h1, h2, h3⟩ := hI.row hrow
          cases hs with
          | ms hb' =>
            rw [h1] at hb'; cases hb'
            by_cases hg : len + xs.length ≤ cap
            · have hroom : off + len * sz + (flat xs).length ≤ cs.length := by
                rw [hfl, Nat.add_assoc, ← Nat.add_mul]
                exact Nat.le_trans (Nat.add_le_add_left (Nat.mul_le_mul_right _ hg) _) hfit
              have hnl : off + len * sz + 0 + news.length ≤ vals.toList.length := by
                have h31 := h3.1
                have h32 : vals.toList.length = vals.size := Array.length_toList
                rw [h32, q1, ← hfl]; omega
              have hst := run_storeCells_at P b (off + len * sz) T news 0 vals w h2 hnl hnone
              simp only [Nat.add_zero] at hst
              have hr := run_append_fits (P := P) (w := w) (ty := ty) ht hu (fun k e => hd k e) hn (base := some ⟨b, off, none⟩) (sLen := len) (sCap := cap) (m := xs.length) (x := vx) q3 (q4 w rfl) hg (fun a ea => by cases ea; rw [Addr.add_lit]; exact hst) (fun e => by cases e)
              exact ⟨_, _, G, _, _, hr, Gh.le.refl G, hI.putRow hrow hroom (news := news) q2 h1 h2 h3, .ms h1, H0 hg⟩
            · have hlen : off + len * sz ≤ cs.length := Nat.le_trans (Nat.add_le_add_left (Nat.mul_le_mul_right _ hlc) _) hfit
              have hA := (At.of_row h2 h3).drop off
              have hold : (Builtin.firstCells sz len (.slice (some ⟨b, off, none⟩) len cap)).run P w.drew = .ok ((List.range (len * sz)).map fun q => (w.cell? ⟨b, off + q, none⟩).getD undef).toArray w.drew := by
                have hr' := run_loadCells (P := P) w.drew ⟨b, off, none⟩ (len * sz) (fun q => (w.cell? ⟨b, off + q, none⟩).getD undef) (fun q hq => by
                  obtain ⟨u, q1, q2⟩ := hA q _ (List.getElem?_eq_getElem (show q < (cs.drop off).length by rw [List.length_drop]; omega))
                  rw [Nat.zero_add] at q1
                  rw [Addr.add_lit, cell_eq (w := w) (by rfl), q1]; rfl)
                simpa [Builtin.firstCells] using hr'
              have holdV : VRs G ((cs.drop off).take (len * sz)) ((List.range (len * sz)).map fun q => (w.cell? ⟨b, off + q, none⟩).getD undef).toArray := by
                refine VRs.of_get (by simp; omega) fun j c v e e' => ?_
                rw [List.getElem?_take] at e
                split at e
                · rename_i hj
                  obtain ⟨u, q1, q2⟩ := hA j c e
                  rw [Nat.zero_add] at q1
                  simp [hj, q1] at e'
                  subst e'; exact q2
                · cases e
              have hr := run_append_moves (P := P) (w := w) (ty := ty) ht hu (fun k e => hd k e) hn hb hz (base := some ⟨b, off, none⟩) (sLen := len) (sCap := cap) (m := xs.length) (x := vx) q3 hold (q4 w.drew rfl) (by omega) h63 hby
              have hge := grownCap_ge w (len + xs.length) cap e
              generalize grownCap w (len + xs.length) cap e = nc at hr hge
              refine ⟨_, _, _, _, _, hr, hI.drew.add_le _, newVar_ok hI.drew (t := e) (cs := (cs.drop off).take (len * sz) ++ flat xs ++ List.replicate ((nc - (len + xs.length)) * sz) .top) ?_, .ms (Gh.add_same _ _ _), H1 (by omega) nc hge⟩
              exact (holdV.append q2).append (VRs.tops G (Builtin.zeroCells z.cells (nc - (len + xs.length))) (k := (nc - (len + xs.length)) * sz) (by rw [size_zeroCells, hzn]))
        · exact H.elim
      · exact H.elim
    · exact H.elim
  · exact H.elim

/-- A literal as an array of one's own. -/
def aBuildSliceM (P : Program) (t : TypeId) (len : Nat) (parts : List (Nat × AV)) (h : AH) (K : AV → AH → Prop) : Prop :=
  match P.underlying t with
  | some (.slice e) => (match tsz P e, tzero P e with
    | some n, some z => n ≠ 0 ∧ z.cells.size = n ∧ len * n ≤ 16777216 ∧ parts.map (·.1) = List.range len ∧ (∀ p ∈ parts, p.2.cells.length = n ∧ (p.2.one = true ∨ ∃ cs, p.2 = .agg cs)) ∧ K (.ms h.length 0 len len n) (h ++ [.row (flat (parts.map (·.2))) e])
    | _, _ => False)
  | _ => False
theorem buildSliceM_ok (hI : Inv Γ G h w) {t : TypeId} {len : Nat} {parts : Array (Nat × Operand)} {a : Act} (ht : TR N G σ a.tmps) {K : AV → AH → Prop} (H : aBuildSliceM P t len (evParts Γ σ parts) h K) :
    SemOK P Γ G w (Instr.buildSlice t len (parts.map fun (i, x) => (i, a.eval x))) K := by
  have hlen : (evParts Γ σ parts).length = (parts.map fun (i, x) => (i, a.eval x)).toList.length := by simp [evParts]
  have hrel : ∀ (j : Nat) (p : Nat × AV) (q : Nat × Value), (evParts Γ σ parts)[j]? = some p → (parts.map fun (i, x) => (i, a.eval x)).toList[j]? = some q → p.1 = q.1 ∧ VR G p.2 q.2 := fun j p q e1 e2 => by
    simp only [evParts, List.getElem?_map, Option.map_eq_some_iff, Array.toList_map] at e1 e2
    obtain ⟨⟨i, x⟩, h1, rfl⟩ := e1
    obtain ⟨⟨i', x'⟩, h2, rfl⟩ := e2
    rw [h1] at h2; cases h2
    exact ⟨rfl, ev_VR hI ht x⟩
  unfold aBuildSliceM at H
  split at H
  · rename_i e hd
    split at H
    · rename_i n z hn hz
      obtain ⟨h0, hzs, hmost, hidx, hcs, hk⟩ := H
      generalize hps : evParts Γ σ parts = ps at hlen hrel hidx hcs hk
      have hpl : ps.length = len := by have := congrArg List.length hidx; simpa using this
      have hp : ∀ k p, ps[k]? = some p → p.1 = 0 + k := fun k p e => by
        have : (ps.map (·.1))[k]? = some p.1 := by rw [List.getElem?_map, e]; rfl
        rw [hidx, List.getElem?_range (by have := (List.getElem?_eq_some_iff.1 e).1; omega)] at this
        cases this; omega
      obtain ⟨out, vals', f1, f2, f3⟩ := fill_ok (G := G) ps (parts.map fun (i, x) => (i, a.eval x)).toList (((Array.range (len * n)).map (z.cells[· % z.cells.size]!)).toList.map fun _ => AV.top)
        ((Array.range (len * n)).map (z.cells[· % z.cells.size]!)) ⟨by simp, fun j c e => by
          simp only [List.getElem?_map, Option.map_eq_some_iff] at e
          obtain ⟨_, _, rfl⟩ := e
          exact .top _⟩ hlen hrel
        (aFill_rows ps 0 _ hp hcs (by simp [hpl]) (k := fun out => out.length = len * n ∧ ∀ j p, ps[j]? = some p → ∀ q, q < n → out[j * n + q]? = p.2.cells[q]?) (fun out h1 _ h3 => ⟨by simpa using h1, fun j p e q hq => by have := h3 j p e q hq; rwa [Nat.zero_add] at this⟩))
      have hrl : ∀ r ∈ ps.map (·.2), r.cells.length = n := fun r hr => by obtain ⟨p, hpm, rfl⟩ := List.mem_map.1 hr; exact (hcs p hpm).1
      have hmp : (ps.map (·.2)).length = len := by simp [hpl]
      have hvl : vals'.size = len * n := by rw [← f2.1]; exact f3.1
      have hV : VRs G (flat (ps.map (·.2))) vals' := ⟨by rw [flat_length hrl, hmp, hvl], fun q c e => by
        have hq := (List.getElem?_eq_some_iff.1 e).1
        rw [flat_length hrl, hmp] at hq
        have hk' : q / n < len := Nat.div_lt_of_lt_mul (by rw [Nat.mul_comm]; exact hq)
        have hj : q % n < n := Nat.mod_lt _ (by omega)
        have hqq : q / n * n + q % n = q := by rw [Nat.mul_comm]; exact Nat.div_add_mod q n
        obtain ⟨p, hpk⟩ : ∃ p, ps[q / n]? = some p := ⟨_, List.getElem?_eq_getElem (by omega)⟩
        have hpm : (ps.map (·.2))[q / n]? = some p.2 := by rw [List.getElem?_map, hpk]; rfl
        have h1 := flat_get hrl _ _ _ hpm hj
        rw [hqq, e] at h1
        have h2 := f3.2 _ p hpk _ hj
        rw [hqq, ← h1] at h2
        exact f2.2 q c h2⟩
      refine ⟨.slice (some ⟨w.heap.size, 0, none⟩) len len, w.alloc (.cells vals' e), _, _, _, ?_, hI.add_le _, newVar_ok hI (t := e) hV, .ms (Gh.add_same _ _ _), hk⟩
      have hf1 : Instr.fill (fun i => some (i * n, n)) ((Array.range (len * n)).map (z.cells[· % z.cells.size]!)) (parts.map fun (i, x) => (i, a.eval x)).toList = some vals' := f1
      simp only [Instr.buildSlice, Sem.run_bind, run_underlying hd, Result.andThen_ok, run_sizeOf' hn]
      rw [if_neg (by omega)]
      by_cases hl0 : len * n = 0
      · have hl : len = 0 := by rcases Nat.mul_eq_zero.1 hl0 with h | h <;> omega
        subst hl
        simp only [Nat.zero_mul, if_true, Sem.run_pure, Result.andThen_ok, Sem.run_bind] at hf1 ⊢
        have : ((Array.range 0).map fun x => (#[] : Array Value)[x % (#[] : Array Value).size]!) = ((Array.range 0).map (z.cells[· % z.cells.size]!)) := by simp
        rw [this, hf1]
        simp [newRow]
      · rw [if_neg hl0]
        simp only [Sem.run_bind, Sem.run_pure, run_zero' hz, Result.andThen_ok, hf1]
        simp [newRow]
    · exact H.elim
  · exact H.elim

/-! ### Interface values -/
/-- Is it a type that no interface is? -/
def tni (P : Program) (t : TypeId) : Bool := match P.underlying t with
  | some (.interface _) => false
  | some _ => true
  | none => false
/-- A value as an interface value. -/
def aMkI (b : Bool) (t : TypeId) (x : AV) (K : AV → Prop) : Prop := b = true ∧ K (.iface t x)
theorem mkI_ok (hI : Inv Γ G h w) {t : TypeId} {x : AV} {u : Value} (hx : VR G x u) {K : AV → AH → Prop} (H : aMkI (tni P t) t x fun v => K v h) : SemOK P Γ G w (Instr.makeInterface t u) K := by
  obtain ⟨h1, H⟩ := H
  unfold tni at h1
  split at h1
  · cases h1
  · rename_i d hne hu
    refine .pure' hI (u := .iface t u) ?_ (.iface t hx) H
    simp only [Instr.makeInterface, Sem.run_bind, run_underlying hu, Result.andThen_ok]
    rfl
  · cases h1
theorem aMkI_det {b : Bool} {t : TypeId} {x : AV} {K : AV → Prop} (H : aMkI b t x K) : ∃ v, K v ∧ ∀ K' : AV → Prop, K' v → aMkI b t x K' := ⟨_, H.2, fun _ hk => ⟨H.1, hk⟩⟩
/-- The value of an interface value, at a type that no interface is. -/
def tas (P : Program) (t : TypeId) : Option AV := if tni P t then (tzero P t).map ofV else none
def aTyA (z : Option AV) (x : AV) (t : TypeId) (ok : Bool) (K : AV → Prop) : Prop := match z, x with
  | some z, .iface t' v => if t' = t then K (if ok then .tuple [v, .bool true] else v) else ok = true ∧ K (.tuple [z, .bool false])
  | some z, .nilIface => ok = true ∧ K (.tuple [z, .bool false])
  | _, _ => False
theorem tyA_ok (hI : Inv Γ G h w) {xt t : TypeId} {x : AV} {u : Value} {ok : Bool} (hx : VR G x u) {K : AV → AH → Prop} (H : aTyA (tas P t) x t ok fun v => K v h) : SemOK P Γ G w (Instr.typeAssert u xt t ok) K := by
  unfold aTyA at H
  split at H
  · rename_i z t' v hz
    unfold tas at hz
    split at hz
    · rename_i hn
      obtain ⟨z0, hz0, rfl⟩ := Option.map_eq_some_iff.1 hz
      unfold tni at hn
      split at hn
      · cases hn
      · rename_i d hne hu
        cases hx with
        | iface _ hv =>
        rename_i vv
        split at H
        · rename_i e
          subst e
          exact .pure' hI (u := if ok then .tuple #[vv, .bool true] else vv) (by simp only [Instr.typeAssert, Sem.run_bind, run_underlying hu, Result.andThen_ok, if_true, Sem.run_pure]) (hv.pairOk ok true) H
        · rename_i e
          obtain ⟨rfl, H⟩ := H
          refine .pure' hI (u := .tuple #[z0, .bool false]) ?_ ((ofV_VR G z0).pairOk true false) H
          simp only [Instr.typeAssert, Sem.run_bind, run_underlying hu, Result.andThen_ok, if_neg e, if_true, run_zero' hz0, Sem.run_pure]
      · cases hn
    · cases hz
  · rename_i z hz
    unfold tas at hz
    split at hz
    · rename_i hn
      obtain ⟨z0, hz0, rfl⟩ := Option.map_eq_some_iff.1 hz
      unfold tni at hn
      split at hn
      · cases hn
      · rename_i d hne hu
        cases hx
        obtain ⟨rfl, H⟩ := H
        refine .pure' hI (u := .tuple #[z0, .bool false]) ?_ ((ofV_VR G z0).pairOk true false) H
        simp only [Instr.typeAssert, Sem.run_bind, run_underlying hu, Result.andThen_ok, if_true, run_zero' hz0, Sem.run_pure]
      · cases hn
    · cases hz
  · exact H.elim
theorem aTyA_det {z : Option AV} {x : AV} {t : TypeId} {ok : Bool} {K : AV → Prop} (H : aTyA z x t ok K) : ∃ v, K v ∧ ∀ K' : AV → Prop, K' v → aTyA z x t ok K' := by
  unfold aTyA at *
  split at H
  · split at H
    · rename_i e; exact ⟨_, H, fun _ hk => by simp only [if_pos e]; exact hk⟩
    · rename_i e; exact ⟨_, H.2, fun _ hk => by simp only [if_neg e]; exact ⟨H.1, hk⟩⟩
  · exact ⟨_, H.2, fun _ hk => ⟨H.1, hk⟩⟩
  · exact H.elim
/-- Is an interface value nil. -/
def isNilI : Operand → Bool
  | .const .nilIface => true
  | _ => false
def aNilI (P : Program) (t : TypeId) (op : BinOp) (x : AV) (K : AV → Prop) : Prop :=
  match P.underlying t, op, x with
  | some (.interface _), .eql, .iface _ _ => K (.bool false)
  | some (.interface _), .neq, .iface _ _ => K (.bool true)
  | some (.interface _), .eql, .nilIface => K (.bool true)
  | some (.interface _), .neq, .nilIface => K (.bool false)
  | _, _, _ => False
theorem equalIn_if (d : Nat) {t : TypeId} {m : Array (String × TypeId)} (ht : P.underlying t = some (.interface m)) {v : Value} {b : Bool} (hv : (∃ t' v', v = .iface t' v') ∧ b = false ∨ v = .nilIface ∧ b = true) (w : World) : (Op.equalIn (d + 1) t v .nilIface).run P w = .ok b w := by
  rcases hv with ⟨⟨t', v', rfl⟩, rfl⟩ | ⟨rfl, rfl⟩ <;> simp only [Op.equalIn, Sem.run_bind, run_underlying ht, Result.andThen_ok, Sem.run_pure]
theorem nilI_ok (hI : Inv Γ G h w) {op : BinOp} {t : TypeId} {ox : Operand} {x : AV} {u : Value} (hx : VR G x u) {K : AV → AH → Prop} (H : aNilI P t op x fun v => K v h) :
    SemOK P Γ G w (do eqGuard op t ox (.const .nilIface) u .nilIface; binOp op t u .nilIface) K := by
  have he : ∀ (v : Value) (b : Bool) (m : Array (String × TypeId)), P.underlying t = some (.interface m) → ((∃ t' v', v = .iface t' v') ∧ b = false ∨ v = .nilIface ∧ b = true) → (Op.equal t v .nilIface).run P w = .ok b w := fun v b m ht hv => by
    rw [equal_depth]; exact equalIn_if 9999 ht hv w
  unfold aNilI at H
  split at H
  · rename_i m t' v ht
    cases hx
    exact .pure' hI (by simp [eqGuard, binOp, he _ _ m ht (.inl ⟨⟨_, _, rfl⟩, rfl⟩)]) (.bool false) H
  · rename_i m t' v ht
    cases hx
    exact .pure' hI (by simp [eqGuard, binOp, he _ _ m ht (.inl ⟨⟨_, _, rfl⟩, rfl⟩)]) (.bool true) H
  · rename_i m ht
    cases hx
    exact .pure' hI (by simp [eqGuard, binOp, he _ _ m ht (.inr ⟨rfl, rfl⟩)]) (.bool true) H
  · rename_i m ht
    cases hx
    exact .pure' hI (by simp [eqGuard, binOp, he _ _ m ht (.inr ⟨rfl, rfl⟩)]) (.bool false) H
  · exact H.elim
end
end Go.Abs

/- Maps whose keys are structs of plain cells. It says nothing of any program; no conditions. -/
set_option linter.unusedSimpArgs false
set_option linter.unusedVariables false
namespace Go.Abs
open Go Go.RowKit

section
variable {P : Program} {Γ : Nat → Option (List AV)} {G : Gh} {h : AH} {w : World} {N : Nat} {σ : Tm}

/-- A map whose keys are structs: the places of their cells, all of them; the zero value of its elements. -/
def mks (P : Program) (t : TypeId) : Option (List (Nat × CK) × AV) := match P.underlying t with
  | some (.map kt et) => (match teqS P kt, tzero P et with
    | some l, some z => if l.map (·.1) = List.range l.length then some (l, ofV z) else none
    | _, _ => none)
  | _ => none
def pairO : Option Bool → Option (Option Nat) → Option (Option Nat)
  | some true, _ => some (some 0)
  | some false, r => r.map (Option.map (· + 1))
  | none, _ => none
def eqK (l : List (Nat × CK)) : AV → AV → Option Bool
  | .agg xs, .agg ys => if xs.length = l.length ∧ ys.length = l.length then eqS xs ys l else none
  | _, _ => none
/-- The place of such a key among a map's entries. -/
def aFindS (l : List (Nat × CK)) (k : AV) : List (Nat × AV × AV) → Option (Option Nat)
  | [] => some none
  | (_, k', _) :: r => pairO (eqK l k k') (aFindS l k r)
def scalAt : CK → AV → Bool
  | .int, .int _ _ => true
  | .bool, .bool _ => true
  | .str, .str _ => true
  | _, _ => false
def scals (xs : List AV) (l : List (Nat × CK)) : Bool := l.all fun p => match xs[p.1]? with
  | some a => scalAt p.2 a
  | none => false
def aLkOS (l : List (Nat × CK)) (ok : Bool) (z k : AV) (ob : Option AObj) (K : AV → Prop) : Prop := match ob with
  | some (.map ents _) => aLkF ok z (aFindS l k ents) ents K
  | _ => False
def aLkMS (l : List (Nat × CK)) (z m k : AV) (ok : Bool) (h : AH) (K : AV → Prop) : Prop := match k, m with
  | .agg xs, .map (some i) => scals xs l = true ∧ aLkOS l ok z (.agg xs) (h[i]?) K
  | _, _ => False
def aLk2 (d : Option (List (Nat × CK) × AV)) (P : Program) (t : TypeId) (m k : AV) (ok : Bool) (h : AH) (K : AV → Prop) : Prop := match d with
  | some (l, z) => aLkMS l z m k ok h K
  | none => aLookup P t m k ok h K
def aUpM (l : List (Nat × CK)) (m k x : AV) (h : AH) (K : AH → Prop) : Prop := match k, m with
  | .agg xs, .map (some i) => scals xs l = true ∧ (match h[i]? with
    | some (.map ents clk) => (match (aFindS l (.agg xs) ents).bind (putEnt ents clk (.agg xs) x) with
      | some ob => K (h.set i ob)
      | none => False)
    | _ => False)
  | _, _ => False
def aUp2 (d : Option (List (Nat × CK) × AV)) (P : Program) (t : TypeId) (m k x : AV) (h : AH) (K : AH → Prop) : Prop := match d with
  | some (l, _) => aUpM l m k x h K
  | none => aMapUpdate P t m k x h K

theorem mks_inv {t : TypeId} {l : List (Nat × CK)} {z : AV} (hd : mks P t = some (l, z)) : ∃ kt et fs z0, P.underlying t = some (.map kt et) ∧ P.underlying kt = some (.struct fs) ∧ P.stoodInHeld kt = false ∧ tzero P et = some z0 ∧ z = ofV z0 ∧ l.map (·.1) = List.range l.length ∧
    fs.toList.mapM (fun f => if f.name = "_" then none else if P.plainKey f.type then (ckOf (P.underlying f.type)).map fun k => (f.offset, k) else none) = some l := by
  unfold mks at hd
  split at hd
  · rename_i kt et hu
    split at hd
    · rename_i l' z0 h1 h2
      split at hd
      · rename_i hr
        cases hd
        unfold teqS at h1
        split at h1
        · rename_i fs hk
          split at h1
          · cases h1
          · rename_i hg
            simp only [Bool.or_eq_true, not_or, Bool.not_eq_true] at hg
            exact ⟨kt, et, fs, z0, hu, hk, hg.1, h2, rfl, hr, h1⟩
        · cases h1
      · cases hd
    · cases hd
  · cases hd
theorem checkKey_fields {xs : List AV} {vx : Array Value} (hx : VRs G xs vx) (e : Bool) (n : Nat) (w : World) : ∀ (fs : List Field) (l : List (Nat × CK)), fs.mapM (fun f => if f.name = "_" then none else if P.plainKey f.type then (ckOf (P.underlying f.type)).map fun k => (f.offset, k) else none) = some l →
    scals xs l = true → Sem.run P (forIn fs PUnit.unit fun f _ => do
      if f.name ≠ "_" then Instr.checkKey e (n + 1) f.type (← part f.type vx f.offset)
      pure (ForInStep.yield PUnit.unit)) w = .ok PUnit.unit w
  | [], l, _, _ => by simp
  | f :: fs, l, hl, hs => by
    rw [List.mapM_cons] at hl
    simp only [bind, Option.bind_eq_some_iff, pure, Option.some.injEq] at hl
    obtain ⟨q, h1, l', h2, rfl⟩ := hl
    split at h1
    · cases h1
    · rename_i hn
      split at h1
      · rename_i hp
        obtain ⟨k, hk, rfl⟩ := Option.map_eq_some_iff.1 h1
        simp only [scals, List.all_cons, Bool.and_eq_true] at hs
        obtain ⟨s1, s2⟩ := hs
        split at s1
        · rename_i a ha
          obtain ⟨u, eu, ru⟩ := hx.get ha
          have p1 := run_part_plain (P := P) w hp (xs := vx) (off := f.offset) eu
          have p2 : (Instr.checkKey e (n + 1) f.type u).run P w = .ok () w := by
            unfold ckOf at hk
            split at hk <;> rename_i hu <;> cases hk
            all_goals
              cases a <;> simp [scalAt] at s1
              cases ru
              simp [Instr.checkKey, run_underlying hu]
          have ih := checkKey_fields hx e n w fs l' h2 s2
          simp only [List.forIn_cons, hn, ne_eq, not_false_eq_true, if_true, Sem.run_bind, p1, p2, Result.andThen_ok, Sem.run_pure]
          exact ih
        · cases s1
      · cases h1
theorem checkKey_struct {kt : TypeId} {fs : Array Field} {l : List (Nat × CK)} {xs : List AV} {vx : Array Value} (hk : P.underlying kt = some (.struct fs)) (hm : fs.toList.mapM (fun f => if f.name = "_" then none else if P.plainKey f.type then (ckOf (P.underlying f.type)).map fun k => (f.offset, k) else none) = some l)
    (hx : VRs G xs vx) (hs : scals xs l = true) (e : Bool) (n : Nat) (w : World) : (Instr.checkKey e (n + 2) kt (.agg vx)).run P w = .ok () w := by
  have := checkKey_fields (P := P) hx e n w fs.toList l hm hs
  rw [Instr.checkKey]
  simp only [Sem.run_bind, run_underlying hk, Result.andThen_ok]
  rw [← Array.forIn_toList]
  simp only [] at this ⊢
  rw [this]
  rfl
theorem eqK_inv {l : List (Nat × CK)} {xs : List AV} {k' : AV} {q : Bool} (h : eqK l (.agg xs) k' = some q) : ∃ ys, k' = .agg ys ∧ xs.length = l.length ∧ ys.length = l.length ∧ eqS xs ys l = some q := by
  cases k' with
  | agg ys =>
    simp only [eqK] at h
    split at h
    · rename_i hl; exact ⟨ys, rfl, hl.1, hl.2, h⟩
    · cases h
  | _ => simp [eqK] at h
theorem findAsking_ok {kt : TypeId} {fs : Array Field} {l : List (Nat × CK)} {xs : List AV} {vx : Array Value} (hk : P.underlying kt = some (.struct fs)) (hg : P.stoodInHeld kt = false) (hm : fs.toList.mapM (fun f => if f.name = "_" then none else if P.plainKey f.type then (ckOf (P.underlying f.type)).map fun k => (f.offset, k) else none) = some l)
    (hx : VRs G xs vx) (w : World) : ∀ (ents : List (Nat × AV × AV)) (es : List MapEntry) (n : Nat), ents.length = es.length → (∀ (j : Nat) (e : Nat × AV × AV) (x : MapEntry), ents[j]? = some e → es[j]? = some x → VR G e.2.1 x.key) → ∀ {r : Option Nat}, aFindS l (.agg xs) ents = some r →
    (Instr.findAsking kt (.agg vx) es n).run P w = .ok (foundAt es n r) w ∧ (∀ i, r = some i → i < es.length ∧ ∃ ys, (ents[i]?).map (·.2.1) = some (.agg ys) ∧ ys.length = l.length ∧ xs.length = l.length ∧ eqS xs ys l = some true)
  | [], [], n, _, _, r, hr => by cases hr; exact ⟨by simp [Instr.findAsking, foundAt], fun i e => by cases e⟩
  | [], _ :: _, n, hl, _, _, _ => by simp at hl
  | _ :: _, [], n, hl, _, _, _ => by simp at hl
  | (b, k', v') :: ents, x :: es, n, hl, hv, r, hr => by
    have hkx := hv 0 _ _ rfl rfl
    simp only at hkx
    simp only [aFindS] at hr
    cases hq : eqK l (.agg xs) k' with
    | none => rw [hq] at hr; cases hr
    | some q =>
      rw [hq] at hr
      obtain ⟨ys, rfl, lx, ly, hq⟩ := eqK_inv hq
      generalize hxk : x.key = xk at hkx
      cases hkx with
      | agg l2 v2 =>
      rename_i vy
      have hfs : P.fieldsOf kt = fs := by simp [Program.fieldsOf, hk]
      have he : (Op.equal kt (.agg vx) (.agg vy)).run P w = .ok q w := by
        rw [equal_depth, run_equalIn_struct w 9999 kt vx vy (by rw [hfs]; exact hk) hg, hfs]
        exact eqS_run hx ⟨l2, v2⟩ 9998 w fs.toList l hm hq
      cases q with
      | true =>
        cases hr
        refine ⟨by simp [Instr.findAsking, hxk, he, foundAt], fun i e => by cases e; exact ⟨by simp, ys, rfl, ly, lx, hq⟩⟩
      | false =>
        simp only [pairO, Option.map_eq_some_iff] at hr
        obtain ⟨r', h1, h2⟩ := hr
        obtain ⟨q1, q2⟩ := findAsking_ok hk hg hm hx w ents es (n + 1) (by simpa using hl) (fun j e x he hx => hv (j + 1) e x he hx) h1
        subst h2
        refine ⟨?_, fun i e => ?_⟩
        · simp only [Instr.findAsking, Sem.run_bind, hxk, he, Result.andThen_ok, Bool.false_eq_true, if_false, q1]
          cases r' with
          | none => rfl
          | some i => simp [foundAt, Nat.add_assoc, Nat.add_comm 1 i]
        · cases r' with
          | none => cases e
          | some i' =>
            simp at e; subst e
            obtain ⟨a1, a2⟩ := q2 i' rfl
            exact ⟨by simp; omega, by simpa using a2⟩
theorem findKey_ok {kt : TypeId} {fs : Array Field} {l : List (Nat × CK)} {xs : List AV} {vx : Array Value} (hk : P.underlying kt = some (.struct fs)) (hg : P.stoodInHeld kt = false) (hm : fs.toList.mapM (fun f => if f.name = "_" then none else if P.plainKey f.type then (ckOf (P.underlying f.type)).map fun k => (f.offset, k) else none) = some l)
    (hx : VRs G xs vx) (w : World) (ents : List (Nat × AV × AV)) (es : List MapEntry) (hl : ents.length = es.length) (hv : ∀ (j : Nat) (e : Nat × AV × AV) (x : MapEntry), ents[j]? = some e → es[j]? = some x → VR G e.2.1 x.key) {r : Option Nat} (hr : aFindS l (.agg xs) ents = some r) :
    (Instr.findKey kt (.agg vx) es).run P w = .ok (foundAt es 0 r) w := by
  have h1 := (findAsking_ok hk hg hm hx w ents es 0 hl hv hr).1
  cases es with
  | nil =>
    simp only [Instr.findKey, Sem.run_bind, run_underlying hk, Result.andThen_ok, Instr.findNow, Sem.run_pure]
    simp only [Instr.findAsking, Sem.run_pure] at h1
    exact h1
  | cons x es =>
    have : Instr.findNow (.struct fs) (.agg vx) (x :: es) 0 = none := by simp [Instr.findNow, Instr.sameNow]
    simp only [Instr.findKey, Sem.run_bind, run_underlying hk, Result.andThen_ok, this]
    exact h1

theorem lookup2_ok (hI : Inv Γ G h w) {t : TypeId} {m k : AV} {vm vk : Value} {ok : Bool} (hm : VR G m vm) (hk : VR G k vk) {K : AV → AH → Prop} (H : aLk2 (mks P t) P t m k ok h fun v => K v h) : SemOK P Γ G w (Instr.lookup t vm vk ok) K := by
  unfold aLk2 at H
  split at H
  · rename_i l z hd
    obtain ⟨kt, et, fs, z0, u1, u2, u3, u4, rfl, u6, u7⟩ := mks_inv hd
    unfold aLkMS at H
    split at H
    · rename_i xs i
      obtain ⟨hs, H⟩ := H
      unfold aLkOS aLkF at H
      split at H
      · rename_i ents clk hrow
        obtain ⟨b, es, k1, k2, k3, k4⟩ := hI.obj i _ hrow
        cases hm with
        | map hb =>
        rw [k1] at hb; cases hb
        cases hk with
        | agg l1 v1 =>
        rename_i vx
        have hkeys : ∀ (j : Nat) (e : Nat × AV × AV) (x : MapEntry), ents[j]? = some e → es.toList[j]? = some x → VR G e.2.1 x.key := fun j e x he hx => (k4 j e x he (by simpa using hx)).2.1
        have hck := fun e => checkKey_struct (P := P) u2 u7 ⟨l1, v1⟩ hs e 9998 w
        split at H
        · rename_i hr
          have q1 := findKey_ok (P := P) u2 u3 u7 ⟨l1, v1⟩ w ents es.toList (by simpa using k3) hkeys hr
          exact .pure' hI (u := if ok then .tuple #[z0, .bool false] else z0) (by simp [Instr.lookup, run_underlying u1, run_getObj_map _ _ _ _ k2, hck, q1, foundAt, run_zero' u4]) ((ofV_VR G z0).pairOk ok false) H
        · rename_i j hr
          have q1 := findKey_ok (P := P) u2 u3 u7 ⟨l1, v1⟩ w ents es.toList (by simpa using k3) hkeys hr
          obtain ⟨hj, _⟩ := (findAsking_ok (P := P) u2 u3 u7 ⟨l1, v1⟩ w ents es.toList 0 (by simpa using k3) hkeys hr).2 j rfl
          obtain ⟨x, hx⟩ : ∃ x, es.toList[j]? = some x := ⟨_, List.getElem?_eq_getElem hj⟩
          split at H
          · rename_i e he
            have hval := (k4 j e x he (by simpa using hx)).2.2
            have hx' : es[j]? = some x := by simpa using hx
            exact .pure' hI (u := if ok then .tuple #[x.val, .bool true] else x.val) (by simp [Instr.lookup, run_underlying u1, run_getObj_map _ _ _ _ k2, hck, q1, foundAt, hx']) (hval.pairOk ok true) H
          · exact H.elim
        · exact H.elim
      · exact H.elim
    · exact H.elim
  · exact lookup_ok hI hm hk H
theorem eqS_same {xs ys : List AV} : ∀ {l : List (Nat × CK)}, eqS xs ys l = some true → ∀ p ∈ l, ∃ a c, xs[p.1]? = some a ∧ ys[p.1]? = some c ∧ eqCell p.2 a c = some true
  | [], _, p, hp => by simp at hp
  | (o, k) :: l, h, p, hp => by
    simp only [eqS] at h
    unfold andO at h
    split at h
    · rename_i b1 b2 h1 h2
      simp only [Option.some.injEq, Bool.and_eq_true] at h
      obtain ⟨rfl, rfl⟩ := h
      rcases List.mem_cons.1 hp with rfl | hp
      · unfold eqCellO at h1
        split at h1
        · rename_i a c e1 e2; exact ⟨a, c, e1, e2, h1⟩
        · cases h1
      · exact eqS_same h2 p hp
    · cases h
theorem sameBits_cell {ck : CK} {a c : AV} {u v : Value} (ha : VR G a u) (hc : VR G c v) (h : eqCell ck a c = some true) (n : Nat) : Instr.sameBits n v u = true := by
  cases ck <;> cases a <;> cases c <;> simp [eqCell] at h
  · obtain ⟨rfl, rfl⟩ := h
    cases ha; cases hc; simp [Instr.sameBits]
  · subst h
    cases ha; cases hc; simp [Instr.sameBits]
  · cases ha; cases hc
    rename_i s1 s2
    have : (s2 == s1) = true := by rw [beq_toListBytes]; simp [h]
    simpa [Instr.sameBits] using this
theorem sameBits_struct {l : List (Nat × CK)} {xs ys : List AV} {vx vy : Array Value} (hr : l.map (·.1) = List.range l.length) (hx : VRs G xs vx) (hy : VRs G ys vy) (lx : xs.length = l.length) (ly : ys.length = l.length) (h : eqS xs ys l = some true) : Instr.sameBits 10000 (.agg vy) (.agg vx) = true := by
  have hs : vy.size = vx.size := by rw [← hx.1, ← hy.1, lx, ly]
  have : ∀ p ∈ vy.toList.zip vx.toList, Instr.sameBits 9999 p.1 p.2 = true := fun p hp => by
    obtain ⟨j, hj, e⟩ := List.getElem_of_mem hp
    have hjl : j < l.length := by
      have := hj; simp at this; have := hy.1; omega
    have ho : l[j].1 = j := by
      have := congrArg (·[j]?) hr
      simp [hjl] at this
      exact this
    obtain ⟨a, c, e1, e2, e3⟩ := eqS_same h l[j] (List.getElem_mem hjl)
    rw [ho] at e1 e2
    obtain ⟨u, q1, q2⟩ := hx.get e1
    obtain ⟨v, p1, p2⟩ := hy.get e2
    rw [List.getElem_zip] at e
    subst e
    have a1 : vx.toList[j]? = some u := by simpa using q1
    have a2 : vy.toList[j]? = some v := by simpa using p1
    have b1 := (List.getElem?_eq_some_iff.1 a1).2
    have b2 := (List.getElem?_eq_some_iff.1 a2).2
    simp only [b1, b2]
    exact sameBits_cell q2 p2 e3 9999
  simp only [Instr.sameBits, hs, beq_self_eq_true, Bool.true_and, List.all_eq_true]
  exact this
theorem mapUpdate2_ok (hI : Inv Γ G h w) {t : TypeId} {m k x : AV} {vm vk vx : Value} (hm : VR G m vm) (hk : VR G k vk) (hx : VR G x vx) {K : AH → Prop} (H : aUp2 (mks P t) P t m k x h K) : SemOKU P Γ G w (Instr.mapUpdate t vm vk vx) K := by
  unfold aUp2 at H
  split at H
  · rename_i l z hd
    obtain ⟨kt, et, fs, z0, u1, u2, u3, u4, rfl, u6, u7⟩ := mks_inv hd
    unfold aUpM at H
    split at H
    · rename_i xs i
      obtain ⟨hs, H⟩ := H
      split at H
      · rename_i ents clk hrow
        obtain ⟨b, es, k1, k2, k3, k4⟩ := hI.obj i _ hrow
        have hk0 := hk
        cases hm with
        | map hb =>
        rw [k1] at hb; cases hb
        cases hk with
        | agg l1 v1 =>
        rename_i vxs
        have hkeys : ∀ (j : Nat) (e : Nat × AV × AV) (x : MapEntry), ents[j]? = some e → es.toList[j]? = some x → VR G e.2.1 x.key := fun j e x he hx => (k4 j e x he (by simpa using hx)).2.1
        have hck := fun e => checkKey_struct (P := P) u2 u7 ⟨l1, v1⟩ hs e 9998 w
        split at H
        · rename_i ob hob
          rw [Option.bind_eq_some_iff] at hob
          obtain ⟨r, hr, hob⟩ := hob
          have q1 := findKey_ok (P := P) u2 u3 u7 ⟨l1, v1⟩ w ents es.toList (by simpa using k3) hkeys hr
          cases r with
          | none =>
            cases hob
            refine ⟨w.putObj b (.map (es.push { key := .agg vxs, val := vx, born := clk }) (clk + 1)), G, _, ?_, Gh.le.refl G, hI.setMap k1 k2 (by simp [k3]) (fun j e y he hy => ?_) (by rw [hrow]; simp), H⟩
            · simp [Instr.mapUpdate, run_underlying u1, run_getObj_map _ _ _ _ k2, hck, q1, foundAt, run_setObj' k2]
            · rw [List.getElem?_append] at he
              rw [Array.getElem?_push] at hy
              by_cases hj : j < ents.length
              · rw [if_pos hj] at he
                rw [if_neg (by omega)] at hy
                exact k4 j e y he hy
              · rw [if_neg hj] at he
                have hj0 : j - ents.length = 0 := by
                  have := (List.getElem?_eq_some_iff.1 he).1
                  simp at this; omega
                rw [hj0] at he
                simp at he; subst he
                rw [if_pos (by omega)] at hy
                cases hy
                exact ⟨rfl, hk0, hx⟩
          | some j =>
            simp only [putEnt, Option.map_eq_some_iff] at hob
            obtain ⟨e0, he0, rfl⟩ := hob
            obtain ⟨hj, ys, hys, ly, lx, heq⟩ := (findAsking_ok (P := P) u2 u3 u7 ⟨l1, v1⟩ w ents es.toList 0 (by simpa using k3) hkeys hr).2 j rfl
            have hjs : j < es.size := by simpa using hj
            have hxj : es[j]? = some es[j] := Array.getElem?_eq_getElem hjs
            have hkey := (k4 j e0 _ he0 hxj).2.1
            rw [he0] at hys
            simp only [Option.map_some, Option.some.injEq] at hys
            rw [hys] at hkey
            have hsb : Instr.sameBits 10000 es[j].key (.agg vxs) = true := by
              generalize es[j].key = kk at hkey
              cases hkey with
              | agg l2 v2 => exact sameBits_struct u6 ⟨l1, v1⟩ ⟨l2, v2⟩ lx ly heq
            refine ⟨w.putObj b (.map (es.modify j fun e => { e with key := .agg vxs, val := vx }) clk), G, _, ?_, Gh.le.refl G, hI.setMap k1 k2 (by simp [k3]) (fun j' e y he hy => ?_) (by rw [hrow]; simp), H⟩
            · simp [Instr.mapUpdate, run_underlying u1, run_getObj_map _ _ _ _ k2, hck, q1, foundAt, hxj, Instr.keyThatStays, hsb, run_setObj' k2]
            · rw [List.getElem?_set] at he
              rw [Array.getElem?_modify] at hy
              by_cases hjj : j = j'
              · subst hjj
                rw [if_pos rfl, if_pos (by omega)] at he
                cases he
                rw [if_pos rfl, hxj] at hy
                cases hy
                exact ⟨(k4 j e0 _ he0 hxj).1, hk0, hx⟩
              · rw [if_neg hjj] at he
                rw [if_neg hjj] at hy
                exact k4 j' e y he hy
        · exact H.elim
      · exact H.elim
    · exact H.elim
  · exact mapUpdate_ok hI hm hk hx H
end
end Go.Abs

/- The laws of a walk over abstract values: operations, regions, sequence, branches, blocks, loops, calls. It says nothing of any program; no conditions. -/
set_option linter.unusedSimpArgs false
set_option linter.unusedVariables false
namespace Go.Abs
open Go Go.RowKit

/-- Nothing but a value that is no nil pointer passes. -/
def aNil (x : AV) (K : AV → Prop) : Prop :=
  match x with
  | .ptr (some _) => K x
  | .eptr _ => K x
  | .func _ _ _ => K x
  | .yield _ => K x
  | _ => False

/-- Calls of what Go has built in. -/
def aBuiltin (P : Program) (b : Builtin) (ts : List TypeId) (xs : List AV) (h : AH) (K : AV → AH → Prop) : Prop :=
  match b, ts, xs with
  | .len, [t], [x] => aLen P t x h fun v => K v h
  | .append, [t, u], [s, x] => aAppend P t u s x h K
  | .min, _, [x, y] => aMin x y fun v => K v h
  | .max, _, [x, y] => aMax x y fun v => K v h
  | .clear, [t], [x] => aClear P t x h K
  | _, _, _ => False

/-- The operations, calls aside. -/
def aop (P : Program) (Γ : Nat → Option (List AV)) (σ : Tm) (h : AH) (op : Op) (K : AV → AH → Prop) : Prop :=
  match op with
  | .move x => K (ev Γ σ x) h
  | .assign x => K (ev Γ σ x) h
  | .pick c a b => (match ev Γ σ c with
    | .bool t => K (if t then ev Γ σ a else ev Γ σ b) h
    | _ => False)
  | .alloc t => aAlloc P t h K
  | .box t x => aBox t (ev Γ σ x) h K
  | .build t parts => aBuild P t (evParts Γ σ parts) fun v => K v h
  | .buildSlice t len parts => aBuildSlice P t len (evParts Γ σ parts) fun v => K v h
  | .load t a => aLoad P t (ev Γ σ a) h K
  | .store t a x => aStore P t (ev Γ σ a) (ev Γ σ x) h fun h' => K (.tuple []) h'
  | .nilCheck x => aNil (ev Γ σ x) fun v => K v h
  | .binOp op t x y _ => aBin2 P op t (ev Γ σ x) (ev Γ σ y) fun v => K v h
  | .unOp op _ x => aUn op (ev Γ σ x) fun v => K v h
  | .convert s d x => aConv2 P s d (ev Γ σ x) fun v => K v h
  | .makeFunc (.func f) first captured => K (.func f (first.toList.map (ev Γ σ)) (captured.toList.map (ev Γ σ))) h
  | .makeMap _ none => aMakeMap h K
  | .makeSlice t l c => aMakeSlice P t (ev Γ σ l) (ev Γ σ c) h K
  | .range t x => aRange P t (ev Γ σ x) h K
  | .entry x => aEntry (ev Γ σ x) h fun v => K v h
  | .index t x i => aIndex P t (ev Γ σ x) (ev Γ σ i) fun v => K v h
  | .slice t x lo hi mx => aSlice2 P t (ev Γ σ x) (lo.map (ev Γ σ)) (hi.map (ev Γ σ)) (mx.map (ev Γ σ)) fun v => K v h
  | .fieldAddr s x f => aFieldAddr P s (ev Γ σ x) f fun v => K v h
  | .field t x f => aField P t (ev Γ σ x) f fun v => K v h
  | .indexAddr t x i => aIndexAddr P t (ev Γ σ x) (ev Γ σ i) fun v => K v h
  | .lookup t m k ok => aLk2 (mks P t) P t (ev Γ σ m) (ev Γ σ k) ok h fun v => K v h
  | .extract x i => aExtract (ev Γ σ x) i fun v => K v h
  | .makeInterface t x => aMkI (tni P t) t (ev Γ σ x) fun v => K v h
  | .typeAssert x _ t ok => aTyA (tas P t) (ev Γ σ x) t ok fun v => K v h
  | .mapUpdate t m k x => aUp2 (mks P t) P t (ev Γ σ m) (ev Γ σ k) (ev Γ σ x) h fun h' => K (.tuple []) h'
  | .insert t m k x => aUp2 (mks P t) P t (ev Γ σ m) (ev Γ σ k) (ev Γ σ x) h fun h' => K (.tuple []) h'
  | .call c => (match c.callee with
    | .builtin b => aBuiltin P b c.argTypes.toList (c.args.toList.map (ev Γ σ)) h K
    | _ => False)
  | _ => False

/-- What an operation that makes no call leaves. -/
def StepOK (P : Program) (Γ : Nat → Option (List AV)) (G : Gh) (w : World) (s : Sem Next) (K : AV → AH → Prop) : Prop :=
  ∃ n u w' G' av h', s.run P w = .ok n w' ∧ (n = .value u ∨ (n = .skip ∧ u = undef)) ∧ G.le G' ∧ Inv Γ G' h' w' ∧ VR G' av u ∧ K av h'

section
variable {P : Program} {Γ : Nat → Option (List AV)} {G : Gh} {h : AH} {w : World} {N : Nat} {σ : Tm}

theorem StepOK.val {s : Sem Value} {K : AV → AH → Prop} (H : SemOK P Γ G w s K) : StepOK P Γ G w (do pure (.value (← s))) K := by
  obtain ⟨u, w', G', av, h', h1, h2, h3, h4, h5⟩ := H
  exact ⟨.value u, u, w', G', av, h', by simp [h1], .inl rfl, h2, h3, h4, h5⟩
theorem StepOK.unit {s : Sem Unit} {K : AV → AH → Prop} (H : SemOKU P Γ G w s fun h' => K (.tuple []) h') : StepOK P Γ G w (do s; pure .skip) K := by
  obtain ⟨w', G', h', h1, h2, h3, h4⟩ := H
  exact ⟨.skip, undef, w', G', _, h', by simp [h1], .inr ⟨rfl, rfl⟩, h2, h3, .tuple rfl (fun j c e => by simp at e), h4⟩
theorem StepOK.now (hI : Inv Γ G h w) {u : Value} {av : AV} {K : AV → AH → Prop} (hv : VR G av u) (hk : K av h) : StepOK P Γ G w (pure (.value u)) K :=
  ⟨.value u, u, w, G, av, h, rfl, .inl rfl, Gh.le.refl G, hI, hv, hk⟩

theorem evs_VR (hI : Inv Γ G h w) {a : Act} (ht : TR N G σ a.tmps) (xs : Array Operand) : VRs G (xs.toList.map (ev Γ σ)) (xs.map a.eval) :=
  VRs.of_get (by simp) fun j c v e e' => by
    simp only [List.getElem?_map, Option.map_eq_some_iff, Array.getElem?_map, Array.getElem?_toList] at e e'
    obtain ⟨x, h1, rfl⟩ := e
    obtain ⟨y, h2, rfl⟩ := e'
    rw [h1] at h2; cases h2
    exact ev_VR hI ht x

theorem evo_VR (hI : Inv Γ G h w) {a : Act} (ht : TR N G σ a.tmps) (x : Option Operand) : VRo G (x.map (ev Γ σ)) (x.map a.eval) := by
  cases x with
  | none => trivial
  | some x => exact ev_VR hI ht x

theorem VRs.inv1 {x : AV} {vs : Array Value} (hv : VRs G [x] vs) : ∃ v, vs = #[v] ∧ VR G x v := by
  obtain ⟨v, h1, h2⟩ := hv.get (j := 0) rfl
  refine ⟨v, ?_, h2⟩
  have hl := hv.1
  apply Array.ext (by simpa using hl.symm)
  intro i hi _
  have : i = 0 := by simp at hl; omega
  subst this
  simpa [Array.getElem?_eq_getElem hi] using h1
theorem VRs.inv2 {x y : AV} {vs : Array Value} (hv : VRs G [x, y] vs) : ∃ v u, vs = #[v, u] ∧ VR G x v ∧ VR G y u := by
  obtain ⟨v, h1, h2⟩ := hv.get (j := 0) rfl
  obtain ⟨u, k1, k2⟩ := hv.get (j := 1) rfl
  refine ⟨v, u, ?_, h2, k2⟩
  have hl := hv.1
  apply Array.ext (by simpa using hl.symm)
  intro i hi _
  have : i = 0 ∨ i = 1 := by simp at hl; omega
  rcases this with rfl | rfl
  · simpa [Array.getElem?_eq_getElem hi] using h1
  · simpa [Array.getElem?_eq_getElem hi] using k1

theorem builtin_ok (hI : Inv Γ G h w) {b : Builtin} {ts : Array TypeId} {tl : List TypeId} {ty : TypeId} {consts : Array Bool} {xs : List AV} {vs : Array Value} (hv : VRs G xs vs) (hts : ts = tl.toArray)
    {K : AV → AH → Prop} (H : aBuiltin P b tl xs h K) : StepOK P Γ G w (builtin b ts ty consts vs) K := by
  subst hts
  unfold aBuiltin at H
  split at H
  · obtain ⟨v, rfl, h1⟩ := hv.inv1
    exact .val (len_ok hI h1 rfl H)
  · obtain ⟨v, u, rfl, h1, h2⟩ := hv.inv2
    exact .val (append_ok hI h1 h2 H)
  · obtain ⟨v, u, rfl, h1, h2⟩ := hv.inv2
    exact .val (min_ok hI h1 h2 H)
  · obtain ⟨v, u, rfl, h1, h2⟩ := hv.inv2
    exact .val (max_ok hI h1 h2 H)
  · obtain ⟨v, rfl, h1⟩ := hv.inv1
    exact .val (clear_ok hI h1 H)
  · exact H.elim

theorem aop_ok (hI : Inv Γ G h w) {a : Act} (ht : TR N G σ a.tmps) {o : Oper} {K : AV → AH → Prop} (H : aop P Γ σ h o.op K) : StepOK P Γ G w (execOp a.eval o) K := by
  have e := fun x => ev_VR (x := x) hI ht
  unfold aop at H
  unfold execOp
  split at H <;> rename_i ho <;> simp only [ho]
  · exact .now hI (e _) H
  · exact .now hI (e _) H
  · rename_i c x y
    split at H
    · rename_i t hc
      have hcv := e c
      rw [hc] at hcv
      generalize a.eval c = vc at hcv
      cases hcv
      have := StepOK.now (P := P) hI (u := if t then a.eval x else a.eval y) (av := if t then ev Γ σ x else ev Γ σ y) (by cases t <;> simp <;> exact e _) H
      simpa [asBool] using this
    · exact H.elim
  · exact .val (alloc_ok hI H)
  · exact .val (box_ok hI (e _) H)
  · exact .val (build_ok hI ht H)
  · exact .val (buildSlice_ok hI ht H)
  · exact .val (loadAt_ok hI (e _) H)
  · exact .unit (storeAt_ok hI (e _) (e _) H)
  · rename_i x
    have hx := e x
    unfold aNil at H
    split at H
    all_goals first
      | exact H.elim
      | (rename_i hx'
         rw [hx'] at hx H
         generalize a.eval x = vx at hx
         have hx0 := hx
         cases hx
         exact .now hI hx0 H)
  · exact .val (bin2_ok hI (e _) (e _) H)
  · exact .val (un_ok hI (e _) H)
  · exact .val (conv2_ok hI (e _) H)
  · rename_i f first captured
    have h1 := evs_VR hI ht first
    have h2 := evs_VR hI ht captured
    exact .val (.pure' hI (by simp [Instr.makeFunc] <;> rfl) (.func h1.1 h2.1 h1.2 h2.2) H)
  · exact .val (makeMap_ok hI H)
  · exact .val (makeSlice_ok hI (e _) (e _) H)
  · exact .val (range_ok hI (e _) H)
  · exact .val (entry_ok hI (e _) H)
  · exact .val (index_ok hI (e _) (e _) H)
  · exact .val (slice2_ok hI (e _) (evo_VR hI ht _) (evo_VR hI ht _) (evo_VR hI ht _) H)
  · exact .val (fieldAt_ok hI (e _) H)
  · exact .val (field_ok hI (e _) H)
  · exact .val (indexAt_ok hI (e _) (e _) H)
  · exact .val (lookup2_ok hI (e _) (e _) H)
  · exact .val (extract_ok hI (e _) H)
  · exact .val (mkI_ok hI (e _) H)
  · exact .val (tyA_ok hI (e _) H)
  · exact .unit (mapUpdate2_ok hI (e _) (e _) (e _) H)
  · exact .unit (mapUpdate2_ok hI (e _) (e _) (e _) H)
  · rename_i c
    split at H
    · rename_i b hb
      have hv := evs_VR hI ht c.args
      have := fun consts => builtin_ok (ty := o.type) (consts := consts) hI hv (Array.toArray_toList (xs := c.argTypes)).symm H
      simp only [resolve, hb, pure_bind, invoke]
      exact this _
    · exact H.elim
  · exact H.elim
end
end Go.Abs
