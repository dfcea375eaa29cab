/- Cuts, lengths, made slices, maps, indexing of values, seen abstractly. It says nothing of any program; no conditions. -/
import Derived.Test.YtopiamdfnaejeaaAbsF
set_option linter.unusedSimpArgs false
set_option linter.unusedVariables false
namespace Go.Abs
open Go Go.RowKit

section
variable {P : Program} {Γ : Nat → Option (List AV)} {G : Gh} {h : AH} {w : World} {N : Nat} {σ : Tm}

/-- A bound of a cut. -/
def aNat (d : Nat) : Option AV → Option Int
  | none => some d
  | some (.int _ n) => some n
  | _ => none

/-- Who owns a cut. -/
def cutOwn (own : Own) (len : Nat) (l h : Int) (mx : Option AV) : Own :=
  match mx with
  | some (.int _ m) => if m = h then .full else .free
  | some _ => .free
  | none => match own with
    | .full => if h = len then .full else .free
    | .arena i => if l = 0 then .arena i else .free
    | .free => .free

def aSlice (P : Program) (t : TypeId) (x : AV) (lo hi mx : Option AV) (K : AV → Prop) : Prop :=
  match P.underlying t, x with
  | some .string, .str s => mx = none ∧ (match aNat 0 lo, aNat s.size hi with
    | some l, some h => 0 ≤ l ∧ l ≤ h ∧ h ≤ s.size ∧ K (.str (s.extract l.toNat h.toNat))
    | _, _ => False)
  | some (.slice e), .sl rows own => (match tsz P e, aNat 0 lo, aNat rows.length hi, aNat rows.length mx with
    | some n, some l, some h, some m => RowsOK n rows ∧ 0 ≤ l ∧ l ≤ h ∧ h ≤ m ∧ m ≤ rows.length ∧ (mx.isSome = true → hi.isSome = true) ∧ K (.sl ((rows.take h.toNat).drop l.toNat) (cutOwn own rows.length l h mx))
    | _, _, _, _ => False)
  | some (.slice e), .ms i off len cap sz => (match tsz P e, aNat 0 lo, aNat len hi, aNat cap mx with
    | some n, some l, some h, some m => n = sz ∧ 0 ≤ l ∧ l ≤ h ∧ h ≤ m ∧ m ≤ cap ∧ (mx.isSome = true → hi.isSome = true) ∧ K (.ms i (if m = l then off else off + l.toNat * sz) (h.toNat - l.toNat) (m.toNat - l.toNat) sz)
    | _, _, _, _ => False)
  | _, _ => False

/-- An optional operand. -/
def VRo (G : Gh) : Option AV → Option Value → Prop
  | none, none => True
  | some a, some v => VR G a v
  | _, _ => False

theorem run_sliceBound {v : Value} {k : IntKind} {i : Int} {y : Nat} {code : BoundsCode} (hv : v = .int k i) (h : 0 ≤ i) (h' : i ≤ y) (w : World) : (Instr.sliceBound v y code).run P w = .ok i.toNat w := by
  subst hv
  simp [Instr.sliceBound, asIntOf, h, h']

theorem aNat_some {d : Nat} {x : Option AV} {u : Option Value} {n : Int} (hv : VRo G x u) (e : aNat d x = some n) : (x = none ∧ u = none ∧ n = d) ∨ (∃ k, x = some (.int k n) ∧ u = some (.int k n)) := by
  cases x with
  | none => cases u with
    | none => simp [aNat] at e; exact .inl ⟨rfl, rfl, e.symm⟩
    | some _ => exact hv.elim
  | some a => cases u with
    | none => exact hv.elim
    | some v =>
      cases a <;> simp [aNat] at e
      subst e
      cases hv
      exact .inr ⟨_, rfl, rfl⟩

theorem run_sliceBounds {isS : Bool} {len cap : Nat} {lo hi mx : Option AV} {ul uh um : Option Value} (h1 : VRo G lo ul) (h2 : VRo G hi uh) (h3 : VRo G mx um) {l h m : Int} {c : Nat} (hc : c ≤ cap)
    (e1 : aNat 0 lo = some l) (e2 : aNat len hi = some h) (e3 : aNat c mx = some m) (a1 : 0 ≤ l) (a2 : l ≤ h) (a3 : h ≤ m) (a4 : m ≤ c) (a5 : mx.isSome = true → hi.isSome = true) (w : World) :
    (Instr.sliceBounds isS len cap ul uh um).run P w = .ok (l.toNat, h.toNat, if mx.isSome then m.toNat else cap) w := by
  rcases aNat_some h3 e3 with ⟨rfl, rfl, rfl⟩ | ⟨k3, rfl, rfl⟩
  · rcases aNat_some h2 e2 with ⟨rfl, rfl, rfl⟩ | ⟨k2, rfl, rfl⟩ <;> rcases aNat_some h1 e1 with ⟨rfl, rfl, rfl⟩ | ⟨k1, rfl, rfl⟩
    · simp [Instr.sliceBounds]
    · simp [Instr.sliceBounds, run_sliceBound rfl a1 a2]
    · simp [Instr.sliceBounds, run_sliceBound (y := cap) rfl (show (0 : Int) ≤ h by omega) (by omega)]
    · simp [Instr.sliceBounds, run_sliceBound (y := cap) rfl (show (0 : Int) ≤ h by omega) (by omega), run_sliceBound (y := h.toNat) (v := .int k1 l) rfl a1 (by omega)]
  · rcases aNat_some h2 e2 with ⟨rfl, rfl, rfl⟩ | ⟨k2, rfl, rfl⟩
    · simp at a5
    · rcases aNat_some h1 e1 with ⟨rfl, rfl, rfl⟩ | ⟨k1, rfl, rfl⟩
      · simp [Instr.sliceBounds, run_sliceBound (y := cap) (v := .int k3 m) rfl (show (0 : Int) ≤ m by omega) (by omega), run_sliceBound (y := m.toNat) (v := .int k2 h) rfl (show (0 : Int) ≤ h by omega) (by omega)]
      · simp [Instr.sliceBounds, run_sliceBound (y := cap) (v := .int k3 m) rfl (show (0 : Int) ≤ m by omega) (by omega), run_sliceBound (y := m.toNat) (v := .int k2 h) rfl (show (0 : Int) ≤ h by omega) (by omega),
          run_sliceBound (y := h.toNat) (v := .int k1 l) rfl a1 (by omega)]

theorem slice_ok (hI : Inv Γ G h w) {t : TypeId} {x : AV} {v : Value} {lo hi mx : Option AV} {ul uh um : Option Value} (hx : VR G x v) (h1 : VRo G lo ul) (h2 : VRo G hi uh) (h3 : VRo G mx um) {K : AV → AH → Prop}
    (H : aSlice P t x lo hi mx fun v => K v h) : SemOK P Γ G w (Instr.sliceAt t v ul uh um) K := by
  unfold aSlice at H
  split at H
  · rename_i s hd
    obtain ⟨rfl, H⟩ := H
    split at H
    · rename_i l hh e1 e2
      obtain ⟨a1, a2, a3, hk⟩ := H
      cases hx with
      | str =>
        have hb := run_sliceBounds (P := P) (isS := false) (cap := s.size) h1 h2 (show VRo G none none from trivial) (Nat.le_refl _) e1 e2 (show aNat s.size none = some (s.size : Int) from rfl) a1 a2 a3 (Int.le_refl _) (by simp) w
        cases um with
        | some _ => exact h3.elim
        | none => exact .pure' hI (by simp [Instr.sliceAt, run_underlying hd, Instr.slice, hb] <;> rfl) (.str _) hk
    · exact H.elim
  · rename_i e rows own hd
    split at H
    · rename_i n l hh m hn e1 e2 e3
      obtain ⟨hok, a1, a2, a3, a4, a5, hk⟩ := H
      cases hx with
      | sl vals hcap hnil hsz hF hv hown =>
        rename_i a cap sz
        have hb := run_sliceBounds (P := P) (isS := true) (cap := cap) h1 h2 h3 hcap e1 e2 e3 a1 a2 a3 a4 a5 w
        generalize hM : (if mx.isSome then m.toNat else cap) = M at hb
        have hr : (Instr.sliceAt t (.slice a rows.length cap) ul uh um).run P w = .ok (.slice (if M = l.toNat then a else a.map (·.add (l.toNat * n))) (hh.toNat - l.toNat) (M - l.toNat)) w := by
          simp [Instr.sliceAt, run_underlying hd, Instr.slice, hb, run_sizeOf' hn]
        have hMh : hh.toNat ≤ M := by rw [← hM]; split <;> omega
        have hMc : M ≤ cap := by rw [← hM]; split <;> omega
        have hlen : ((rows.take hh.toNat).drop l.toNat).length = hh.toNat - l.toNat := by rw [List.length_drop, List.length_take]; omega
        have hget : ∀ k r, ((rows.take hh.toNat).drop l.toNat)[k]? = some r → rows[l.toNat + k]? = some r ∧ l.toNat + k < hh.toNat := fun k r ek => by
          rw [List.getElem?_drop, List.getElem?_take] at ek
          split at ek
          · exact ⟨ek, by assumption⟩
          · cases ek
        refine .pure' hI (u := .slice (if M = l.toNat then a else a.map (·.add (l.toNat * n))) (hh.toNat - l.toNat) (M - l.toNat)) hr ?_ hk
        rw [← hlen]
        refine .sl (sz := sz) (fun k j => vals (l.toNat + k) j) (by rw [hlen]; omega) (fun ea => ?_) (fun k r ek => hsz _ r (hget k r ek).1) (fun k r j c ek ec => ?_) (fun k r j c ek ec => hv _ r j c (hget k r ek).1 ec) ?_
        · have : a = none := by
            split at ea
            · exact ea
            · cases a with
              | none => rfl
              | some _ => simp at ea
          have := hnil this; omega
        · obtain ⟨b, o, q1, q2⟩ := hF _ r j c (hget k r ek).1 ec
          have hne : ¬ M = l.toNat := by have := (hget k r ek).2; omega
          have hs : sz = n := (hsz _ r (hget k r ek).1).symm.trans (hok r (List.mem_of_getElem? (hget k r ek).1)).1
          subst hs
          refine ⟨b, o + l.toNat * sz, by rw [if_neg hne, q1]; simp [Addr.add_lit], ?_⟩
          rw [show o + l.toNat * sz + k * sz + j = o + (l.toNat + k) * sz + j from by rw [Nat.add_mul]; omega]
          exact q2
        · generalize hA : (if M = l.toNat then a else a.map fun x => x.add (l.toNat * n)) = A
          unfold cutOwn
          split
          · rename_i k' m'
            have : m' = m := by simpa [aNat] using e3
            subst this
            simp only [Option.isSome_some, if_true] at hM
            split
            · show M - l.toNat = _; rw [hlen]; omega
            · trivial
          · trivial
          · simp only [Option.isSome_none, Bool.false_eq_true, if_false] at hM
            split
            · split
              · show M - l.toNat = _
                rw [hlen]
                have : cap = rows.length := hown
                omega
              · trivial
            · rename_i i
              split
              · rename_i hl0
                obtain ⟨r, q1, q2, q3⟩ := hown
                refine ⟨r, q1, by rw [hlen]; omega, fun eq => ?_⟩
                rw [hlen] at eq
                have hfull : rows.length = r.n := by omega
                have := q3 hfull
                subst hl0
                simp only [Int.toNat_zero, Nat.sub_zero] at hlen ⊢
                have hmap : A = a := by
                  rw [← hA]
                  split
                  · rfl
                  · cases a <;> simp [Addr.add_zero']
                split
                · rename_i hbk
                  rw [hbk] at this; simp only at this; omega
                · rename_i b c s T hbk
                  rw [hbk] at this; simp only at this
                  obtain ⟨z1, z2, z3⟩ := this
                  refine ⟨by rw [hmap]; exact z1, by omega, fun hne => z3 (fun e => hne (by rw [e]; simp))⟩
              · trivial
            · trivial
    · exact H.elim
  · rename_i e i off len cap sz hd
    split at H
    · rename_i n l hh m hn e1 e2 e3
      obtain ⟨rfl, a1, a2, a3, a4, a5, hk⟩ := H
      cases hx with
      | @ms _ B _ _ _ _ hbk =>
        have hb := run_sliceBounds (P := P) (isS := true) (cap := cap) h1 h2 h3 (Nat.le_refl _) e1 e2 e3 a1 a2 a3 a4 a5 w
        have hM : (if mx.isSome then m.toNat else cap) = m.toNat := by
          rcases aNat_some h3 e3 with ⟨rfl, _, rfl⟩ | ⟨k, rfl, _⟩ <;> simp
        rw [hM] at hb
        have hr : (Instr.sliceAt t (.slice (some ⟨B, off, none⟩) len cap) ul uh um).run P w = .ok (.slice (some ⟨B, if m = l then off else off + l.toNat * n, none⟩) (hh.toNat - l.toNat) (m.toNat - l.toNat)) w := by
          simp only [Instr.sliceAt, Sem.run_bind, run_underlying hd, Result.andThen_ok, Instr.slice, hb, run_sizeOf' hn, Sem.run_pure, Option.map_some, Addr.add_lit]
          by_cases hml : m = l
          · simp [hml]
          · rw [if_neg (by omega), if_neg hml]
        exact .pure' hI hr (.ms hbk) hk
    · exact H.elim
  · exact H.elim

/-- Lengths. -/
def aLen (P : Program) (t : TypeId) (x : AV) (h : AH) (K : AV → Prop) : Prop :=
  match P.underlying t, x with
  | some .string, .str s => K (.int .i64 s.size)
  | some (.slice _), .sl rows _ => K (.int .i64 rows.length)
  | some (.slice _), .ms _ _ len _ _ => K (.int .i64 len)
  | some (.array n _), _ => K (.int .i64 n)
  | some (.map _ _), .map none => K (.int .i64 0)
  | some (.map _ _), .map (some i) => (match h[i]? with
    | some (.map es _) => K (.int .i64 es.length)
    | _ => False)
  | _, _ => False

theorem len_ok (hI : Inv Γ G h w) {t : TypeId} {ts : Array TypeId} {ty : TypeId} {x : AV} {v : Value} (hx : VR G x v) (hts : ts[0]? = some t) {K : AV → AH → Prop} (H : aLen P t x h fun v => K v h) :
    SemOK P Γ G w (Builtin.len_ ts ty #[v]) K := by
  unfold aLen at H
  split at H
  · rename_i hd; cases hx; exact .pure' hI (by simp [Builtin.len_, hts, run_underlying hd, goInt] <;> rfl) (.int _ _) H
  · rename_i hd; cases hx; exact .pure' hI (by simp [Builtin.len_, hts, run_underlying hd, goInt] <;> rfl) (.int _ _) H
  · rename_i hd; cases hx; exact .pure' hI (by simp [Builtin.len_, hts, run_underlying hd, goInt] <;> rfl) (.int _ _) H
  · rename_i hd; exact .pure' hI (by simp [Builtin.len_, hts, run_underlying hd, goInt] <;> rfl) (.int _ _) H
  · rename_i hd; cases hx; exact .pure' hI (by simp [Builtin.len_, hts, run_underlying hd, goInt] <;> rfl) (.int _ _) H
  · rename_i i hd
    split at H
    · rename_i es clk hrow
      obtain ⟨b, es', k1, k2, k3, _⟩ := hI.obj i _ hrow
      cases hx with
      | map hb =>
        rw [k1] at hb; cases hb
        exact .pure' hI (by simp [Builtin.len_, hts, run_underlying hd, run_getObj_map _ _ _ _ k2, goInt] <;> rfl) (by rw [← k3]; exact .int _ _) H
    · exact H.elim
  · exact H.elim

/-- A map of one's own. -/
def aMakeMap (h : AH) (K : AV → AH → Prop) : Prop := K (.map (some h.length)) (h ++ [.map [] 0])

theorem makeMap_ok (hI : Inv Γ G h w) {t : TypeId} {K : AV → AH → Prop} (H : aMakeMap h K) : SemOK P Γ G w (Instr.makeMap t none) K :=
  ⟨.map (some w.heap.size), w.alloc (.map #[] 0), G.add h.length w.heap.size, _, _, by simp [Instr.makeMap], hI.add_le _,
    hI.alloc (.map #[] 0) (.map [] 0) ⟨w.heap.size, #[], Gh.add_same _ _ _, heap_alloc_new w _, rfl, fun j e x he => by simp at he⟩, .map (Gh.add_same _ _ _), H⟩

/-- The place of a key among a map's entries. -/
def aFind (k : AV) : List (Nat × AV × AV) → Option (Option Nat)
  | [] => some none
  | (_, k', _) :: r => (match k, k' with
    | .int p a, .int q b => if p = q then (if a = b then some (some 0) else (aFind k r).map (Option.map (· + 1))) else none
    | .str a, .str b => if (a == b) = true then some (some 0) else (aFind k r).map (Option.map (· + 1))
    | _, _ => none)

/-- Kinds of keys that are looked up by what they are. -/
def keyFits : TypeDesc → AV → Bool
  | .int _, .int _ _ => true
  | .string, .str _ => true
  | _, _ => false

def foundAt (es : List MapEntry) (n : Nat) : Option Nat → Option (Nat × Value)
  | none => none
  | some i => (es[i]?).map fun x => (n + i, x.val)

theorem VR.int_inv {G : Gh} {k : IntKind} {n : Int} {v : Value} (h : VR G (.int k n) v) : v = .int k n := by cases h; rfl
theorem VR.str_inv {G : Gh} {s : ByteArray} {v : Value} (h : VR G (.str s) v) : v = .string s := by cases h; rfl

theorem findNow_ok {G : Gh} {kd : TypeDesc} {k : AV} {u : Value} (hk : VR G k u) (hf : keyFits kd k = true) : ∀ (ents : List (Nat × AV × AV)) (es : List MapEntry) (n : Nat), ents.length = es.length →
    (∀ (j : Nat) (e : Nat × AV × AV) (x : MapEntry), ents[j]? = some e → es[j]? = some x → VR G e.2.1 x.key) → ∀ {r : Option Nat}, aFind k ents = some r →
    Instr.findNow kd u es n = some (foundAt es n r) ∧ (∀ i, r = some i → i < es.length) := by
  intro ents
  induction ents with
  | nil =>
    intro es n hl _ r hr
    cases es with
    | nil => simp [aFind] at hr; subst hr; exact ⟨rfl, fun i e => by cases e⟩
    | cons _ _ => simp at hl
  | cons e ents ih =>
    intro es n hl hv r hr
    cases es with
    | nil => simp at hl
    | cons x es =>
      obtain ⟨b, k', v'⟩ := e
      have hkx := hv 0 _ _ rfl rfl
      simp only at hkx
      have step : ∀ {same : Bool}, Instr.sameNow kd u x.key = some same → (if same then some (some 0) else (aFind k ents).map (Option.map (· + 1))) = some r →
          Instr.findNow kd u (x :: es) n = some (foundAt (x :: es) n r) ∧ (∀ i, r = some i → i < (x :: es).length) := fun {same} hs hr => by
        simp only [Instr.findNow, hs]
        cases same with
        | true => simp at hr; subst hr; exact ⟨by simp [foundAt], fun i e => by cases e; simp⟩
        | false =>
          simp only [Bool.false_eq_true, if_false, Option.map_eq_some_iff] at hr
          obtain ⟨r', h1, h2⟩ := hr
          obtain ⟨q1, q2⟩ := ih es (n + 1) (by simpa using hl) (fun j e x he hx => hv (j + 1) e x he hx) h1
          subst h2
          rw [q1]
          cases r' with
          | none => exact ⟨rfl, fun i e => by cases e⟩
          | some i => exact ⟨by simp [foundAt, Nat.add_assoc, Nat.add_comm 1 i], fun j e => by simp at e; subst e; have := q2 i rfl; simp; omega⟩
      unfold aFind at hr
      split at hr
      · rename_i p a q c
        have hu := hk.int_inv
        have hkx' := hkx.int_inv
        split at hr
        · rename_i hpq
          subst hpq
          refine step (same := (a == c)) ?_ (by simpa using hr)
          rw [hu, hkx']
          cases kd <;> simp [keyFits] at hf
          simp [Instr.sameNow]
        · cases hr
      · rename_i a c
        have hu := hk.str_inv
        have hkx' := hkx.str_inv
        refine step (same := (a == c)) ?_ hr
        rw [hu, hkx']
        cases kd <;> simp [keyFits] at hf
        simp [Instr.sameNow]
      · cases hr

theorem checkKey_ok {kt : TypeId} {kd : TypeDesc} (hkd : P.underlying kt = some kd) {k : AV} {u : Value} (hk : VR G k u) (hf : keyFits kd k = true) (b : Bool) (n : Nat) (w : World) : (Instr.checkKey b (n + 1) kt u).run P w = .ok () w := by
  cases k <;> cases kd <;> simp [keyFits] at hf <;> cases hk <;> simp [Instr.checkKey, run_underlying hkd]

/-- What is found. -/
def aLkF (ok : Bool) (z : AV) (r : Option (Option Nat)) (ents : List (Nat × AV × AV)) (K : AV → Prop) : Prop := match r with
  | some none => K (if ok then .tuple [z, .bool false] else z)
  | some (some j) => (match ents[j]? with
    | some e => K (if ok then .tuple [e.2.2, .bool true] else e.2.2)
    | none => False)
  | none => False
def aLkO (ok : Bool) (z k : AV) (ob : Option AObj) (K : AV → Prop) : Prop := match ob with
  | some (.map ents _) => aLkF ok z (aFind k ents) ents K
  | _ => False
def aLkM (z m k : AV) (ok : Bool) (h : AH) (K : AV → Prop) : Prop := match m with
  | .map none => K (if ok then .tuple [z, .bool false] else z)
  | .map (some i) => aLkO ok z k (h[i]?) K
  | _ => False
/-- Looking up. -/
def aLookup (P : Program) (t : TypeId) (m k : AV) (ok : Bool) (h : AH) (K : AV → Prop) : Prop :=
  match P.underlying t with
  | some (.map kt et) => (match P.underlying kt, tzero P et with
    | some kd, some z => keyFits kd k = true ∧ aLkM (ofV z) m k ok h K
    | _, _ => False)
  | _ => False

theorem VR.pairOk {G : Gh} {a : AV} {v : Value} (ha : VR G a v) (ok b : Bool) : VR G (if ok then .tuple [a, .bool b] else a) (if ok then .tuple #[v, .bool b] else v) := by
  cases ok with
  | false => exact ha
  | true =>
    have := VRs.cons ha (VRs.one (VR.bool (G := G) b))
    exact .tuple this.1 this.2

theorem lookup_ok (hI : Inv Γ G h w) {t : TypeId} {m k : AV} {vm vk : Value} {ok : Bool} (hm : VR G m vm) (hk : VR G k vk) {K : AV → AH → Prop} (H : aLookup P t m k ok h fun v => K v h) : SemOK P Γ G w (Instr.lookup t vm vk ok) K := by
  unfold aLookup at H
  split at H
  · rename_i kt et hd
    split at H
    · rename_i kd z hkd hz
      obtain ⟨hf, H⟩ := H
      unfold aLkM at H
      split at H
      · cases hm
        exact .pure' hI (u := if ok then .tuple #[z, .bool false] else z) (by simp [Instr.lookup, run_underlying hd, checkKey_ok hkd hk hf, Instr.findKey, run_underlying hkd, Instr.findNow, run_zero' hz]) ((ofV_VR G z).pairOk ok false) H
      · rename_i i
        unfold aLkO aLkF at H
        split at H
        · rename_i ents clk hrow
          obtain ⟨b, es, k1, k2, k3, k4⟩ := hI.obj i _ hrow
          cases hm with
          | map hb =>
            rw [k1] at hb; cases hb
            have hkeys : ∀ (j : Nat) (e : Nat × AV × AV) (x : MapEntry), ents[j]? = some e → es.toList[j]? = some x → VR G e.2.1 x.key := fun j e x he hx => (k4 j e x he (by simpa using hx)).2.1
            split at H
            · rename_i hr
              obtain ⟨q1, _⟩ := findNow_ok (kd := kd) hk hf ents es.toList 0 (by simpa using k3) hkeys hr
              exact .pure' hI (u := if ok then .tuple #[z, .bool false] else z) (by simp [Instr.lookup, run_underlying hd, run_getObj_map _ _ _ _ k2, checkKey_ok hkd hk hf, Instr.findKey, run_underlying hkd, q1, foundAt, run_zero' hz]) ((ofV_VR G z).pairOk ok false) H
            · rename_i j hr
              obtain ⟨q1, q2⟩ := findNow_ok (kd := kd) hk hf ents es.toList 0 (by simpa using k3) hkeys hr
              have hj := q2 j rfl
              obtain ⟨x, hx⟩ : ∃ x, es.toList[j]? = some x := ⟨_, List.getElem?_eq_getElem hj⟩
              split at H
              · rename_i e he
                have hval := (k4 j e x he (by simpa using hx)).2.2
                have hx' : es[j]? = some x := by simpa using hx
                exact .pure' hI (u := if ok then .tuple #[x.val, .bool true] else x.val) (by simp [Instr.lookup, run_underlying hd, run_getObj_map _ _ _ _ k2, checkKey_ok hkd hk hf, Instr.findKey, run_underlying hkd, q1, foundAt, hx']) (hval.pairOk ok true) H
              · exact H.elim
            · exact H.elim
        · exact H.elim
      · exact H.elim
    · exact H.elim
  · exact H.elim
end
end Go.Abs
