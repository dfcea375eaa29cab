/- Texts joined: CmpA, CmpB, CmpC. No conditions. -/
import Derived.Test.YtelehpccfaedjaaMrBA
import Derived.Test.YtelehpccfaedjaaMrR
import Derived.Test.YtelehpccfaedjaaMrAAZ
/- compare's smaller functions: must, caught, part, first, inner. No conditions. -/
set_option linter.unusedSimpArgs false
set_option linter.unusedVariables false
namespace Go.Proofs.Ytelehpccfaedjaa
open Go Go.Proofs Go.Abs

/-- The panic of an error. -/
def errV (e : Int) : AV := .iface 26 (.int .i64 e)
def errU (e : Int) : Value := .iface 26 (.int .i64 e)
theorem errV_exact (e : Int) : exactV (errV e) = some (errU e) := by rw [errV, exactV, exactV]; rfl

set_option maxRecDepth 100000 in
theorem mustI_calls (Γ : Nat → Option (List AV)) (x : AV) (h : AH) (hx : RB h.length x) : ACalls Try.prog Γ 64 [x, .int .i64 0] h fun v h' => h' = h ∧ v = x := by
  refine ACalls.drop ?_
  refine acalls_code (rs := [.tmp 4]) Try.func64 rfl rfl rfl rfl Ty.mixed (by kernel_rfl) ?_
  simp (disch := omega) only [go_sem, seval]
  exact hx
set_option maxRecDepth 100000 in
theorem mustS_calls (Γ : Nat → Option (List AV)) (x : AV) (h : AH) (hx : RB h.length x) : ACalls Try.prog Γ 66 [x, .int .i64 0] h fun v h' => h' = h ∧ v = x := by
  refine ACalls.drop ?_
  refine acalls_code (rs := [.tmp 4]) Try.func66 rfl rfl rfl rfl Ty.mixed (by kernel_rfl) ?_
  simp (disch := omega) only [go_sem, seval]
  exact hx
set_option maxRecDepth 100000 in
theorem mustB_calls (Γ : Nat → Option (List AV)) (b : Bool) (h : AH) : ACalls Try.prog Γ 68 [.bool b, .int .i64 0] h fun v h' => h' = h ∧ v = .bool b := by
  refine ACalls.drop ?_
  refine acalls_code (rs := [.tmp 4]) Try.func68 rfl rfl rfl rfl Ty.mixed (by kernel_rfl) ?_
  simp (disch := omega) only [go_sem, seval]
set_option maxRecDepth 100000 in
theorem mustI_pan (Γ : Nat → Option (List AV)) (B : Nat) (x : AV) (e : Int) (h : AH) (he : e ≠ 0) (hB : B ≤ h.length) : ACallsX Try.prog Γ B 64 [x, .int .i64 e] h (fun _ _ => False) fun u => u = errU e := by
  refine acallsX_code (rs := [.tmp 4]) 64 Try.func64 rfl rfl rfl rfl (by kernel_rfl) ?_
  simp (disch := omega) only [go_sem, seval]
  refine aIf.neg he ?_
  simp (disch := omega) only [go_sem, seval]
  have := PanOK.here (B := B) (h := h) (X := fun u => u = errU e) (u := errU e) hB rfl []
  simpa [errU] using this
set_option maxRecDepth 100000 in
theorem mustS_pan (Γ : Nat → Option (List AV)) (B : Nat) (x : AV) (e : Int) (h : AH) (he : e ≠ 0) (hB : B ≤ h.length) : ACallsX Try.prog Γ B 66 [x, .int .i64 e] h (fun _ _ => False) fun u => u = errU e := by
  refine acallsX_code (rs := [.tmp 4]) 66 Try.func66 rfl rfl rfl rfl (by kernel_rfl) ?_
  simp (disch := omega) only [go_sem, seval]
  refine aIf.neg he ?_
  simp (disch := omega) only [go_sem, seval]
  have := PanOK.here (B := B) (h := h) (X := fun u => u = errU e) (u := errU e) hB rfl []
  simpa [errU] using this

/-! ### caught -/
set_option maxRecDepth 100000 in
theorem caught_none (Γ : Nat → Option (List AV)) (i : Nat) (h : AH) : ACallsD Try.prog Γ 63 [.ptr (some (i, 0))] h none fun h' => h' = h := by
  refine acallsD_code none (fun q e => by cases e) Try.func63 rfl rfl rfl rfl rfl Ty.mixed (by kernel_rfl) (by kernel_rfl) ?_
  rw [recV]
  simp (disch := omega) only [go_sem, seval]
set_option maxRecDepth 100000 in
theorem caught_some (Γ : Nat → Option (List AV)) (i : Nat) (x : AV) (e : Int) (h : AH) (hi : h[i]? = some (.row [x] 26)) : ACallsD Try.prog Γ 63 [.ptr (some (i, 0))] h (some (errU e)) fun h' => h' = h.set i (.row [.int .i64 e] 26) := by
  refine acallsD_code (some (errV e, errU e)) (fun q eq => by cases eq; exact errV_exact e) Try.func63 rfl rfl rfl rfl rfl Ty.mixed (by kernel_rfl) (by kernel_rfl) ?_
  rw [recV, errV]
  simp (disch := omega) only [go_sem, seval, hi]

/-! ### part, first, inner -/
/-- Those who are gathered of a list. -/
def wkC (ks who : List Int) : List Int := who.foldl (fun ks n => addK n ks) ks
theorem mem_wkC (x : Int) : ∀ (who ks : List Int), x ∈ wkC ks who ↔ x ∈ ks ∨ x ∈ who
  | [], ks => by simp [wkC]
  | n :: r, ks => by
    have := mem_wkC x r (addK n ks)
    rw [wkC] at this
    rw [wkC, List.foldl_cons, this, mem_addK, List.mem_cons, or_assoc]
def prV (c : Nat) : AV := .func 105 [] [.ptr (some (c, 0))]
def prO (b : Nat) (who : List Int) : AH := [mapO (wkC [] who), .row [.map (some b)] 82]
set_option maxRecDepth 100000 in
theorem part_calls (Γ : Nat → Option (List AV)) (who : List Int) (h : AH) (hw : who.length ≤ 9223372036854775807) :
    ACalls Try.prog Γ 75 [.sl (encI who) .free] h fun v h' => h' = h ++ prO h.length who ∧ v = prV (h.length + 1) := by
  refine acalls_code (rs := [.tmp 2]) Try.func75 rfl rfl rfl rfl Ty.mixed (by kernel_rfl) ?_
  simp (disch := omega) only [go_sem, seval]
  refine awp_loopL (β := List Int) who [3, 7, 8, 9] (fun don _ => [(3, .ptr (some (h.length + 1, 0))), (7, .sl (encI who) .free), (8, .int .i64 who.length), (9, .int .i64 don.length)])
    (fun ks => h ++ [mapO ks, .row [.map (some h.length)] 82]) (fun don r ks => ks = wkC [] don) [] ?_ ?_ rfl Ty.mixed (by kernel_rfl) ?_ ?_
  · simp (disch := omega) only [go_sem, seval, encI_len]
  · simp [mapO, entsB]
  · rintro don x r ks rfl hks
    have hl3 := len_mid hw
    have e1 : (encI (don ++ x :: r))[don.length]? = some (.int .i64 x) := by simp [encI]
    have hput := put_ents x ks
    simp (disch := omega) only [go_sem, seval, encI_len, List.length_append, List.length_cons]
    refine aIf.pos (by omega) ?_
    simp (disch := omega) only [go_sem, seval, encI_len, List.length_append, List.length_cons, e1, mapO, hput]
    refine roundL_next (addK x ks) ?_ ?_ ?_
    · rw [hks, wkC, wkC, List.foldl_append]; rfl
    · simp (disch := omega) only [go_sem, seval, List.length_append]
    · simp [mapO]
  · intro ks hks
    simp (disch := omega) only [go_sem, seval, encI_len]
    refine AWP.keep [3] (aCode_ok Ty.mixed _ _ _ _ (by kernel_rfl) ?_)
    simp (disch := omega) only [go_sem, seval]
    subst hks
    exact ⟨rfl, rfl⟩
set_option maxRecDepth 100000 in
theorem isPart_calls (Γ : Nat → Option (List AV)) (l who : List Int) (c M : Nat) (h : AH) (hl : l.length ≤ 9223372036854775807) (hc : h[c]? = some (.row [.map (some M)] 82)) (hM : h[M]? = some (mapO (wkC [] who))) :
    ACalls Try.prog Γ 105 [.sl (encI l) .free, .ptr (some (c, 0))] h fun v h' => h' = h ∧ v = .bool (prtF l who) := by
  refine ACalls.drop ?_
  refine acalls_code (rs := [.tmp 3]) Try.func105 rfl rfl rfl rfl Ty.mixed (by kernel_rfl) ?_
  rw [mapO] at hM
  have hmem : ∀ x, x ∈ wkC [] who ↔ x ∈ who := fun x => by rw [mem_wkC]; simp
  generalize wkC [] who = ks at hM hmem
  simp (disch := omega) only [go_sem, seval]
  refine awp_loopL (β := Unit) l [1, 6, 7, 8] (fun don _ => [(1, .ptr (some (c, 0))), (6, .sl (encI l) .free), (7, .int .i64 l.length), (8, .int .i64 don.length)])
    (fun _ => h) (fun don r _ => ∀ x ∈ don, x ∈ who) () ?_ rfl (by simp) Ty.mixed (by kernel_rfl) ?_ ?_
  · simp (disch := omega) only [go_sem, seval, encI_len]
  · rintro don x r _ rfl hd
    have hl3 := len_mid hl
    have e1 : (encI (don ++ x :: r))[don.length]? = some (.int .i64 x) := by simp [encI]
    simp (disch := omega) only [go_sem, seval, encI_len, List.length_append, List.length_cons]
    refine aIf.pos (by omega) ?_
    simp (disch := omega) only [go_sem, seval, encI_len, List.length_append, List.length_cons, e1, hc, hM]
    rcases entsB_find x ks 0 with ⟨h1, j, e, h2, h3, h4⟩ | ⟨h1, h2⟩
    · simp (disch := omega) only [go_sem, seval, h2, h3, h4]
      refine roundL_next () ?_ ?_ rfl
      · intro y hy
        rcases List.mem_append.1 hy with hy | hy
        · exact hd y hy
        · rw [List.mem_singleton] at hy; subst hy; exact (hmem y).1 h1
      · simp (disch := omega) only [go_sem, seval, List.length_append]
    · simp (disch := omega) only [go_sem, seval, h2]
      have : prtF (don ++ x :: r) who = false := by
        cases hp : prtF (don ++ x :: r) who with
        | false => rfl
        | true => exact absurd ((hmem x).2 ((prtF_iff _ _).1 hp x (by simp))) h1
      rw [this]
  · intro _ hd
    simp (disch := omega) only [go_sem, seval, encI_len]
    refine AWP.keep [] (aCode_ok Ty.mixed _ _ _ _ (by kernel_rfl) ?_)
    simp (disch := omega) only [go_sem, seval]
    rw [(prtF_iff l who).2 hd]
/-- The place of the first element about which something is true. -/
def fidx {α : Type} (p : α → Bool) : List α → Option Nat
  | [] => none
  | x :: r => if p x = true then some 0 else (fidx p r).map (· + 1)
def fidI (o : Option Nat) : Int := match o with
  | some k => k
  | none => -1
theorem fidx_at {α : Type} (p : α → Bool) : ∀ (a : List α) (x : α) (r : List α), (∀ y ∈ a, p y = false) → p x = true → fidx p (a ++ x :: r) = some a.length
  | [], x, r, _, hx => by simp [fidx, hx]
  | y :: a, x, r, ha, hx => by
    rw [List.cons_append, fidx, if_neg (by rw [ha y (by simp)]; simp), fidx_at p a x r (fun z hz => ha z (by simp [hz])) hx]; rfl
theorem fidx_no {α : Type} (p : α → Bool) : ∀ (a : List α), (∀ y ∈ a, p y = false) → fidx p a = none
  | [], _ => rfl
  | y :: a, ha => by rw [fidx, if_neg (by rw [ha y (by simp)]; simp), fidx_no p a (fun z hz => ha z (by simp [hz]))]; rfl
theorem fidx_ins (S : List (List Int)) (m : List Int) : fidx (fun s => prtF s m) S = insF S m := by
  induction S with
  | nil => rfl
  | cons s S ih => rw [fidx, insF, ih]
theorem fidx_find {α : Type} (p : α → Bool) : ∀ (l : List α), (match fidx p l with
    | some k => l[k]? = l.find? p ∧ (l.find? p).isSome = true
    | none => l.find? p = none)
  | [] => rfl
  | x :: r => by
    have ih := fidx_find p r
    rw [fidx, List.find?_cons]
    cases hp : p x with
    | true => simp
    | false =>
      simp only [Bool.false_eq_true, if_false]
      cases hf : fidx p r with
      | none => rw [hf] at ih; simpa using ih
      | some k => rw [hf] at ih; simpa using ih
set_option maxRecDepth 100000 in
theorem firstS_calls (Γ : Nat → Option (List AV)) (l : List (List Int)) (p : List Int → Bool) (fn : FuncId) (fs cs : List AV) (h : AH) (hl : l.length ≤ 1000000)
    (H : ∀ x ∈ l, ACalls Try.prog Γ fn (fs ++ .sl (encI x) .free :: cs) h fun v h' => h' = h ∧ v = .bool (p x)) :
    ACalls Try.prog Γ 69 [.sl (encII l) .free, .func fn fs cs] h fun v h' => h' = h ∧ v = .int .i64 (fidI (fidx p l)) := by
  refine ACalls.drop ?_
  refine acalls_code (rs := [.tmp 4]) Try.func69 rfl rfl rfl rfl Ty.mixed (by kernel_rfl) ?_
  simp (disch := omega) only [go_sem, seval]
  refine awp_loopL (β := Unit) l [1, 7, 8, 9] (fun don _ => [(1, .func fn fs cs), (7, .sl (encII l) .free), (8, .int .i64 l.length), (9, .int .i64 don.length)])
    (fun _ => h) (fun don _ _ => ∀ y ∈ don, p y = false) () ?_ rfl (by simp) Ty.mixed (by kernel_rfl) ?_ ?_
  · simp (disch := omega) only [go_sem, seval, encII_len]
  · rintro don x r _ hd hs
    have hlen : l.length = don.length + 1 + r.length := by rw [hd]; simp; omega
    have e1 : (encII l)[don.length]? = some (.sl (encI x) .free) := by rw [hd]; exact encII_get don r x
    simp (disch := omega) only [go_sem, seval, encII_len]
    refine aIf.pos (by omega) ?_
    simp (disch := omega) only [go_sem, seval, e1, List.append_assoc, List.cons_append, List.nil_append]
    refine ACalls.det (H x (by rw [hd]; simp)) ?_
    simp (disch := omega) only [go_sem, seval]
    refine aBr.intro (fun hb => ?_) (fun hb => ?_) <;> simp (disch := omega) only [go_sem, seval]
    · rw [hd, fidx_at p don x r hs hb]; rfl
    · refine roundL_next () ?_ ?_ rfl
      · intro z hz
        rcases List.mem_append.1 hz with hz | hz
        · exact hs z hz
        · simp at hz; subst hz; simpa using hb
      · simp (disch := omega) only [go_sem, seval, List.length_append]
  · intro _ hs
    simp (disch := omega) only [go_sem, seval, encII_len]
    refine AWP.keep [] (aCode_ok Ty.mixed _ _ _ _ (by kernel_rfl) ?_)
    simp (disch := omega) only [go_sem, seval]
    rw [fidx_no p l hs]; rfl
set_option maxRecDepth 100000 in
theorem firstI_calls (Γ : Nat → Option (List AV)) (l : List Int) (p : Int → Bool) (fn : FuncId) (fs cs : List AV) (h : AH) (hl : l.length ≤ 9223372036854775807)
    (H : ∀ x ∈ l, ACalls Try.prog Γ fn (fs ++ .int .i64 x :: cs) h fun v h' => h' = h ∧ v = .bool (p x)) :
    ACalls Try.prog Γ 73 [.sl (encI l) .free, .func fn fs cs] h fun v h' => h' = h ∧ v = .int .i64 (fidI (fidx p l)) := by
  refine ACalls.drop ?_
  refine acalls_code (rs := [.tmp 4]) Try.func73 rfl rfl rfl rfl Ty.mixed (by kernel_rfl) ?_
  simp (disch := omega) only [go_sem, seval]
  refine awp_loopL (β := Unit) l [1, 7, 8, 9] (fun don _ => [(1, .func fn fs cs), (7, .sl (encI l) .free), (8, .int .i64 l.length), (9, .int .i64 don.length)])
    (fun _ => h) (fun don _ _ => ∀ y ∈ don, p y = false) () ?_ rfl (by simp) Ty.mixed (by kernel_rfl) ?_ ?_
  · simp (disch := omega) only [go_sem, seval, encI_len]
  · rintro don x r _ hd hs
    have hlen : l.length = don.length + 1 + r.length := by rw [hd]; simp; omega
    have e1 : (encI l)[don.length]? = some (.int .i64 x) := by rw [hd]; simp [encI]
    simp (disch := omega) only [go_sem, seval, encI_len]
    refine aIf.pos (by omega) ?_
    simp (disch := omega) only [go_sem, seval, e1, List.append_assoc, List.cons_append, List.nil_append]
    refine ACalls.det (H x (by rw [hd]; simp)) ?_
    simp (disch := omega) only [go_sem, seval]
    refine aBr.intro (fun hb => ?_) (fun hb => ?_) <;> simp (disch := omega) only [go_sem, seval]
    · rw [hd, fidx_at p don x r hs hb]; rfl
    · refine roundL_next () ?_ ?_ rfl
      · intro z hz
        rcases List.mem_append.1 hz with hz | hz
        · exact hs z hz
        · simp at hz; subst hz; simpa using hb
      · simp (disch := omega) only [go_sem, seval, List.length_append]
  · intro _ hs
    simp (disch := omega) only [go_sem, seval, encI_len]
    refine AWP.keep [] (aCode_ok Ty.mixed _ _ _ _ (by kernel_rfl) ?_)
    simp (disch := omega) only [go_sem, seval]
    rw [fidx_no p l hs]; rfl
end Go.Proofs.Ytelehpccfaedjaa

/- The reference of compare. No conditions. -/
set_option linter.unusedSimpArgs false
set_option linter.unusedVariables false
namespace Go.Proofs.Ytelehpccfaedjaa
open Go Go.Proofs Go.Abs

def encNs (l : List Nat) : List AV := encI (l.map fun (k : Nat) => (k : Int))
theorem encNs_len (l : List Nat) : (encNs l).length = l.length := by simp [encNs, encI_len]
def encM (r : List Int × Bool × Int) : AV := .tuple [.sl (encI r.1) .free, .bool r.2.1, .int .i64 r.2.2]
def encL (r : List Nat × Bool × Int) : AV := .tuple [.sl (encNs r.1) .free, .bool r.2.1, .int .i64 r.2.2]
theorem small_asc {g : Gt} {s : List Int} (h : s ∈ (smallR g false).1) : ascF (-1) s = true := by
  rw [smallR] at h
  split at h
  · rename_i he
    split at h
    · simp at h
    · exact sets_asc (errF_facts he).1 h
  · simp at h
end Go.Proofs.Ytelehpccfaedjaa

/- The program's More. No conditions. -/
set_option linter.unusedSimpArgs false
set_option linter.unusedVariables false
namespace Go.Proofs.Ytelehpccfaedjaa
open Go Go.Proofs Go.Abs

theorem callsD_mono {P : Program} {Γ : Nat → Option (List AV)} {g : FuncId} {l : List AV} {h : AH} {p : Option Value} {R R' : AH → Prop} (H : ACallsD P Γ g l h p R) (hR : ∀ h, R h → R' h) : ACallsD P Γ g l h p R' :=
  ⟨H.1, fun G w vs hI hv => CallsDIn.mono (H.2 G w vs hI hv) fun e u' w' hr => by
    obtain ⟨h1, h2, G', h', h3, h4, h5⟩ := hr
    exact ⟨h1, h2, G', h', h3, h4, hR _ h5⟩⟩
theorem dead_same {h l : AH} {k : Nat} (e : k = h.length + l.length) : deadH k (h ++ l) = h ++ l := by
  have := deadH_full (h ++ l)
  rwa [List.length_append, ← e] at this
set_option maxRecDepth 100000 in
theorem more1_calls (Γ : Nat → Option (List AV)) (old : Gt) (s : List Int) (c : Nat) (h : AH) (ho : Sh old) (hc : checkF old = 0) (hs : ascF (-1) s = true) (hl : s.length ≤ 1000) (hh : h[c]? = some (.row (encG old).cells 54)) :
    ACalls Try.prog Γ 67 [.sl (encI s) .free, .ptr (some (c, 0))] h fun v h' => h' = h ∧ v = .bool (!permF old s) := by
  have c1 := fun h => Holds_calls Γ old s h ho (by omega)
  rw [(permF_asc hc hs).1, encR] at c1
  cases old with | mk p n gl =>
  simp only [encG_mk, AV.cells] at c1 hh ⊢
  refine ACalls.drop ?_
  refine acalls_code (rs := [.tmp 3]) Try.func67 rfl rfl rfl rfl Ty.mixed (by kernel_rfl) ?_
  simp (disch := omega) only [go_sem, seval, hh]
  refine ACalls.det (c1 _) ?_
  simp (disch := omega) only [go_sem, seval]
  refine ACalls.det (mustB_calls Γ _ _) ?_
  simp (disch := omega) only [go_sem, seval]
set_option maxHeartbeats 1600000 in
set_option maxRecDepth 100000 in
theorem more_calls (Γ : Nat → Option (List AV)) (old now : Gt) (h : AH) (ho : Sh old) (hn : Sh now) :
    ACalls Try.prog Γ 30 [encG old, encG now] h fun v h' => h' = h ∧ v = encM (moreR old now) := by
  have c1 := fun h => check_calls Γ old h ho
  have c2 := fun h => psets_calls Γ now h hn
  have c3 := fun hc s (hs : s ∈ (smallR now false).1) c h hh => more1_calls Γ old s c h ho hc (small_asc hs) (by have := small_in hs; omega) hh
  have hl := small_le now false
  rw [moreR, encM]
  simp only [encS] at c2
  generalize hce : checkF old = ce at *
  generalize smallR now false = S at *
  obtain ⟨S, e⟩ := S
  simp only at c2 c3 hl ⊢
  generalize permF old = pf at *
  cases old with | mk p n gl =>
  cases now with | mk p2 n2 gl2 =>
  simp only [encG_mk, AV.cells] at c1 c2 c3 ⊢
  refine ACalls.dropL ?_
  refine acalls_defer2 (rs := [.tmp 4, .tmp 5, .cell 6 26]) (h.length + 3) 30 Try.func30 rfl rfl rfl rfl (by kernel_rfl) (by kernel_rfl) (by kernel_rfl) ?_
  simp (disch := omega) only [go_sem, seval]
  refine ACallsX.det (c1 _) ?_
  simp (disch := omega) only [go_sem, seval]
  by_cases hc : ce = 0
  rotate_left
  · refine ACallsX.pan (mustI_pan Γ _ _ _ _ hc (by simp)) ?_
    simp (disch := omega) only [go_sem, seval]
    rw [dead_same (by simp)]
    refine endF_panic (errV ce) (errV_exact ce) (callsD_mono (caught_some Γ _ _ _ _ (by simp; rfl)) ?_)
    rintro _ rfl
    simp (disch := omega) only [go_sem, seval]
    rw [if_neg hc]
    rfl
  subst hc
  refine ACallsX.det (mustI_calls Γ _ _ (.int ..)) ?_
  simp (disch := omega) only [go_sem, seval]
  refine ACallsX.det (c2 _) ?_
  simp (disch := omega) only [go_sem, seval]
  by_cases hc : e = 0
  rotate_left
  · refine ACallsX.pan (mustS_pan Γ _ _ _ _ hc (by simp)) ?_
    simp (disch := omega) only [go_sem, seval]
    rw [dead_same (by simp)]
    refine endF_panic (errV e) (errV_exact e) (callsD_mono (caught_some Γ _ _ _ _ (by simp; rfl)) ?_)
    rintro _ rfl
    simp (disch := omega) only [go_sem, seval]
    simp only [if_neg hc]
    rfl
  subst hc
  refine ACallsX.det (mustS_calls Γ _ _ (rb_II .. ▸ trivial)) ?_
  simp (disch := omega) only [go_sem, seval]
  refine ACallsX.det (firstS_calls Γ S (fun s => !pf s) _ [] _ _ (by omega) (fun x hx => c3 rfl x hx _ _ (by simp))) ?_
  simp (disch := omega) only [go_sem, seval]
  have hfx := fidx_find (fun s => !pf s) S
  cases hf : fidx (fun s => !pf s) S with
  | none =>
    rw [hf] at hfx
    simp only at hfx
    rw [fidI]
    simp (disch := omega) only [go_sem, seval]
    refine callsD_mono (caught_none Γ _ _) ?_
    rintro _ rfl
    simp (disch := omega) only [go_sem, seval]
    rw [hfx]
    rfl
  | some k =>
    rw [hf] at hfx
    simp only at hfx
    obtain ⟨h1, h2⟩ := hfx
    rw [fidI]
    cases hs : S.find? (fun s => !pf s) with
    | none => rw [hs] at h2; cases h2
    | some s =>
      rw [hs] at h1
      have hk := (List.getElem?_eq_some_iff.1 h1).1
      have e1 : (encII S)[k]? = some (.sl (encI s) .free) := by simp [encII, h1]
      simp (disch := omega) only [go_sem, seval, encII_len, e1]
      refine callsD_mono (caught_none Γ _ _) ?_
      rintro _ rfl
      simp (disch := omega) only [go_sem, seval]
end Go.Proofs.Ytelehpccfaedjaa
