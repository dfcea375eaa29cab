/- Texts joined: AbsZd, AbsZe, AbsZf. No conditions. -/
import Derived.Test.YtjdhgaflenhljaaDoorMrAAZ
import Derived.Test.YtjdhgaflenhljaaDoorMrG
import Derived.Test.YtjdhgaflenhljaaDoorMrD
import Derived.Test.YtjdhgaflenhljaaDoorMrAA
/- Calls of methods by their names; arrays of one's own with rows of several cells. It says nothing of any program; no conditions. -/
set_option linter.unusedSimpArgs false
set_option linter.unusedVariables false
namespace Go.Abs
open Go Go.RowKit

section
variable {P : Program} {Γ : Nat → Option (List AV)} {G : Gh} {h : AH} {w : World} {N : Nat} {σ : Tm}

/-- What a type's table says of a method that stands in the type itself: the function, and whether it wants the pointer. -/
def mrow (P : Program) (t : TypeId) (name : String) : Option (FuncId × Bool) :=
  match P.info? t with
  | some i => (match i.methods.find? (·.name == name) with
    | some m => if m.path.isEmpty then m.func else none
    | none => none)
  | none => none

theorem AMeth.ptr {t e : TypeId} {v : AV} {name : String} {f : FuncId} (hu : P.underlying t = some (.pointer e)) (hm : mrow P t name = some (f, true)) : AMeth P Γ t v name h f v := fun G w u hI hv => by
  refine ⟨u, ?_, hv⟩
  unfold mrow at hm
  split at hm
  · rename_i i hi
    split at hm
    · rename_i m hf
      split at hm
      · rename_i hp
        have hp' : m.path = #[] := by simpa using hp
        obtain ⟨k, hfuel⟩ : ∃ k, P.types.size + Made.depth = k + 1 := ⟨P.types.size + 99, rfl⟩
        rw [hfuel, method]
        simp only [typeInfo, Sem.run_bind, run_program, Result.andThen_ok, hi, Sem.run_pure, hf, hp', follow, hm, receiverAt, underlying, hu, Place.get]
      · cases hm
    · cases hm
  · cases hm

theorem wrap (xt : TypeId) (ad : Addr) (name : String) : Builtin.ssaWrapNilChk_ #[xt] xt #[.pointer (some ad), strVal "", strVal name] = pure (.pointer (some ad)) := rfl
theorem AMeth.cell {t e : TypeId} {v x : AV} {name : String} {f : FuncId} (hu : P.underlying t = some (.pointer e)) (hm : mrow P t name = some (f, false)) (hl : aLoad P e v h fun y _ => y = x) : AMeth P Γ t v name h f x := fun G w u hI hv => by
  obtain ⟨ad, u', av, rfl, r, hv', rfl⟩ := loadAt_same hI hv hl
  refine ⟨u', ?_, hv'⟩
  unfold mrow at hm
  split at hm
  · rename_i i hi
    split at hm
    · rename_i m hf
      split at hm
      · rename_i hp
        have hp' : m.path = #[] := by simpa using hp
        obtain ⟨k, hfuel⟩ : ∃ k, P.types.size + Made.depth = k + 1 := ⟨P.types.size + 99, rfl⟩
        rw [hfuel, method]
        simp only [typeInfo, Sem.run_bind, run_program, Result.andThen_ok, hi, Sem.run_pure, hf, hp', follow, hm, receiverAt, underlying, hu, Place.get, hp, if_true, wrap, asAddr, pure_bind, r, show (#[] : Array FieldStep).isEmpty = true from rfl]
      · cases hm
    · cases hm
  · cases hm

theorem aInvoke_ptr {t e : TypeId} {v : AV} {name : String} {args : List AV} {R : AV → AH → Prop} (f : FuncId) (hu : P.underlying t = some (.pointer e)) (hm : mrow P t name = some (f, true))
    (H : ACalls P Γ f (v :: args) h R) : aInvoke P Γ (.iface t v) name args h R := ⟨f, v, AMeth.ptr hu hm, H⟩
theorem aInvoke_cell {t e : TypeId} {v : AV} {name : String} {args : List AV} {R : AV → AH → Prop} (f : FuncId) (x : AV) (hu : P.underlying t = some (.pointer e)) (hm : mrow P t name = some (f, false))
    (hl : aLoad P e v h fun y _ => y = x) (H : ACalls P Γ f (x :: args) h R) : aInvoke P Γ (.iface t v) name args h R := ⟨f, x, AMeth.cell hu hm hl, H⟩
@[go_sem] theorem aOp1_invoke (r : Operand) (name : String) (as : List Operand) (ts : Array TypeId) (K : AV → Tm → AH → Prop) : aOp1 P Γ (.call { callee := .invoke r name, args := as.toArray, argTypes := ts }) K σ h = aInvoke P Γ (ev Γ σ r) name (as.map (ev Γ σ)) h (aNext K σ) := (rfl)

/-- A contract from the code, what appends make being of one's own. -/
theorem acalls_codeB {f : FuncId} {fn : Func} {c : Code} {args : List AV} {rs : List ResultVar} {R : AV → AH → Prop} (hf : P.funcs[f]? = some fn) (hb : fn.body = some c) (hn : (fn.name == "runtime.NumGoroutine") = false)
    (hN : Nat.ble args.length fn.ntmps = true) (hM : Nat.ble fn.ntmps 1000001 = true) (hrs : fn.results = rs.toArray) (hm : P.follows .mixedOrders = true) (hc : codeOK fn.ntmps c = true) (H : aCode P Γ fn.ntmps c (endA P rs R) ((1000001, .tuple []) :: argsT 0 args) h) : ACalls P Γ f args h R :=
  acalls_of_awp hf hb hn hN hrs (AWP.mark2 (by simpa [Nat.ble_eq] using hM) (aCode_ok hm c _ _ _ hc H))
end

/-! ### Rows of several cells -/
section
variable {α : Type} (enc : α → List AV) (n : Nat)

def cR (l : List α) (pad : List AV) : List AV := l.flatMap enc ++ pad
variable {enc n}
theorem flatMap_len (hn : ∀ x, (enc x).length = n) (l : List α) : (l.flatMap enc).length = l.length * n := by
  induction l with
  | nil => simp
  | cons x l ih => rw [List.flatMap_cons, List.length_append, hn, ih, List.length_cons, Nat.succ_mul]; omega
theorem cR_len (hn : ∀ x, (enc x).length = n) (l : List α) (pad : List AV) : (cR enc l pad).length = l.length * n + pad.length := by rw [cR, List.length_append, flatMap_len hn]
theorem cR_split {l : List α} {i : Nat} {x : α} (hx : l[i]? = some x) (pad : List AV) : cR enc l pad = (l.take i).flatMap enc ++ (enc x ++ cR enc (l.drop (i + 1)) pad) := by
  have hi := (List.getElem?_eq_some_iff.1 hx).1
  have e : l = l.take i ++ x :: l.drop (i + 1) := by
    rw [List.getElem?_eq_getElem hi] at hx
    cases hx
    simp
  conv => lhs; rw [e]
  simp [cR]
theorem cR_drop (hn : ∀ x, (enc x).length = n) {l : List α} {i : Nat} {x : α} (hx : l[i]? = some x) (pad : List AV) : (cR enc l pad).drop (i * n) = enc x ++ cR enc (l.drop (i + 1)) pad := by
  have hi := (List.getElem?_eq_some_iff.1 hx).1
  rw [cR_split hx, List.drop_left' (by rw [flatMap_len hn, List.length_take]; congr 1; omega)]
theorem cR_set (hn : ∀ x, (enc x).length = n) {l : List α} {i : Nat} (hi : i < l.length) (y : α) (pad : List AV) : (cR enc l pad).take (i * n) ++ enc y ++ (cR enc l pad).drop (i * n + n) = cR enc (l.set i y) pad := by
  have hx := List.getElem?_eq_getElem hi
  have hk : ((l.take i).flatMap enc).length = i * n := by rw [flatMap_len hn, List.length_take]; congr 1; omega
  have e2 : cR enc (l.set i y) pad = (l.take i).flatMap enc ++ (enc y ++ cR enc (l.drop (i + 1)) pad) := by
    have := cR_split (enc := enc) (l := l.set i y) (i := i) (x := y) (by simp [hi]) pad
    rw [this, List.take_set_of_le (Nat.le_refl _), List.drop_set_of_lt (Nat.lt_succ_self _)]
  rw [e2, ← List.drop_drop, cR_drop hn hx, List.drop_left' (hn _), cR_split hx, List.take_left' hk, List.append_assoc]
/-- A list of one's own as an array (its place in the heap is q), with room behind it. -/
def OwnC (enc : α → List AV) (n b q : Nat) (j : AH) (T : TypeId) (v : AV) (l : List α) : Prop :=
  ∃ c pad, v = .ms (b + q) 0 l.length c n ∧ j[q]? = some (.row (cR enc l pad) T) ∧ c * n = l.length * n + pad.length ∧ (∀ a ∈ pad, a.isAgg = false)
theorem splice_eq {cs xs : List AV} {o : Nat} (h : o + xs.length ≤ cs.length) : splice cs o xs = cs.take o ++ xs ++ cs.drop (o + xs.length) := by
  rcases xs with _ | ⟨x, _ | ⟨y, xs⟩⟩
  · rfl
  · rw [splice_one, List.set_eq_take_append_cons_drop, if_pos (by simp at h; omega)]; simp
  · rfl
theorem cR_snoc (hn : ∀ x, (enc x).length = n) {l l2 : List α} {pad : List AV} (h : l2.length * n ≤ pad.length) : splice (cR enc l pad) (0 + l.length * n) (l2.flatMap enc) = cR enc (l ++ l2) (pad.drop (l2.length * n)) := by
  have hk : (l.flatMap enc).length = l.length * n := flatMap_len hn l
  rw [splice_eq (by rw [cR_len hn, flatMap_len hn]; omega), Nat.zero_add, flatMap_len hn]
  rw [cR, List.take_left' hk, List.drop_append, hk, List.drop_eq_nil_of_le (by omega), Nat.add_sub_cancel_left, cR, List.flatMap_append]
  simp
theorem OwnC.get {b q : Nat} {j : AH} {T : TypeId} {v : AV} {l : List α} (h : OwnC enc n b q j T v l) {i : Nat} {k : AH} (hk : b = k.length) : ∃ c pad, v = .ms (b + q) 0 l.length c n ∧ (k ++ j)[b + q]? = some (.row (cR enc l pad) T) := by
  obtain ⟨c, pad, h1, h2, _⟩ := h
  exact ⟨c, pad, h1, by rw [hk, hget_add]; exact h2⟩
theorem OwnC.more {b q : Nat} {j : AH} {T : TypeId} {v : AV} {l : List α} (h : OwnC enc n b q j T v l) (k : AH) : OwnC enc n b q (j ++ k) T v l := by
  obtain ⟨c, pad, h1, h2, h3⟩ := h
  exact ⟨c, pad, h1, by rw [List.getElem?_append_left (List.getElem?_eq_some_iff.1 h2).1]; exact h2, h3⟩
/-- **An append to a list of one's own.** -/
theorem aApM_C {l l2 : List α} {v x : AV} {ys : List AV} {h j : AH} {q : Nat} {T : TypeId} {by_ : Nat} {z : List AV} {Q : AV → AH → Prop} (hn : ∀ x, (enc x).length = n) (h0 : 0 < n) (hv : (v = .sl [] .full ∧ l = []) ∨ OwnC enc n h.length q j T v l)
    (hs : SrcIs x (h ++ j) ys) (hx : RowsOK n ys) (hf : flat ys = l2.flatMap enc) (hl : ys.length = l2.length) (hne : l2 ≠ []) (h63 : l.length + l2.length ≤ 9223372036854775807) (hby : (l.length + l2.length) * by_ ≤ 140737488355328)
    (H : ∀ v' q' j', OwnC enc n h.length q' j' T v' (l ++ l2) → j.length ≤ j'.length → (∀ i, i < j.length → i ≠ q → j'[i]? = j[i]?) → (q' = q ∨ j.length ≤ q') → (∀ (i : Nat) (ob : AObj), j'[i]? = some ob → j[i]? = some ob ∨ ∃ cs, ob = AObj.row cs T) → Q v' (h ++ j')) : aApM (some (n, by_, z, T)) v x (h ++ j) Q := by
  refine ⟨ys, hs, hx, ?_⟩
  have hys : ys ≠ [] := fun e => by rw [e] at hl; exact hne (List.length_eq_zero_iff.1 hl.symm)
  have snoc : ∀ cs0 (i : Nat) (ob : AObj), (j ++ [.row cs0 T])[i]? = some ob → j[i]? = some ob ∨ ∃ cs, ob = .row cs T := fun cs0 i ob e => by
    rw [List.getElem?_append] at e
    split at e
    · exact .inl e
    · refine .inr ⟨cs0, ?_⟩
      cases hk : i - j.length with
      | zero => rw [hk] at e; simpa using e.symm
      | succ k => rw [hk] at e; simp at e
  rcases hv with ⟨rfl, rfl⟩ | ⟨c, pad, rfl, h2, h3, h4⟩
  · refine ⟨by rw [hl]; simpa using h63, by rw [hl]; simpa using hby, fun e => absurd e hys, fun _ c hc => ?_⟩
    rw [hf, List.append_assoc, hl]
    have := H (.ms (h ++ j).length 0 l2.length c n) j.length (j ++ [.row (l2.flatMap enc ++ List.replicate ((c - l2.length) * n) .top) T]) ⟨c, List.replicate ((c - l2.length) * n) .top, by simp, by simp [cR], by
      rw [List.length_replicate, List.nil_append, ← Nat.add_mul]; congr 1; omega, fun a ha => by rw [List.eq_of_mem_replicate ha]; rfl⟩ (by simp) (fun i hi _ => by rw [List.getElem?_append_left hi]) (.inr (Nat.le_refl _)) (snoc _)
    exact this
  · have hq := (List.getElem?_eq_some_iff.1 h2).1
    have hg : (h ++ j)[h.length + q]? = some (.row (cR enc l pad) T) := by rw [hget_add]; exact h2
    have hlc : l.length ≤ c := Nat.le_of_mul_le_mul_right (c := n) (by omega) h0
    rw [hl]
    refine ⟨rfl, h63, hby, hlc, ?_⟩
    rw [hg]
    refine ⟨by rw [cR_len hn]; omega, fun hle => ?_, fun hlt c' hc' => ?_⟩
    · have hle' := Nat.mul_le_mul_right n hle
      rw [Nat.add_mul] at hle'
      have := H (.ms (h.length + q) 0 (l.length + l2.length) c n) q (j.set q (.row (cR enc (l ++ l2) (pad.drop (l2.length * n))) T)) ⟨c, pad.drop (l2.length * n), by simp, by simp [hq], by
        rw [List.length_append, Nat.add_mul, List.length_drop]; omega, fun a ha => h4 a (List.mem_of_mem_drop ha)⟩ (by simp) (fun i _ hi => by rw [List.getElem?_set_ne (Ne.symm hi)]) (.inl rfl) (fun k ob e => by
        rw [List.getElem?_set] at e
        split at e
        · exact .inr ⟨_, (Option.some.inj (by simpa [hq] using e)).symm⟩
        · exact .inl e)
      rw [hset_add, hf, cR_snoc hn (by omega)]
      exact this
    · have hkl : (l.flatMap enc).length = l.length * n := flatMap_len hn l
      have := H (.ms (h ++ j).length 0 (l.length + l2.length) c' n) j.length (j ++ [.row (cR enc (l ++ l2) (List.replicate ((c' - (l.length + l2.length)) * n) .top)) T]) ⟨c', List.replicate ((c' - (l.length + l2.length)) * n) .top, by simp, by simp, by
        rw [List.length_append, List.length_replicate, ← Nat.add_mul]; congr 1; omega, fun a ha => by rw [List.eq_of_mem_replicate ha]; rfl⟩ (by simp) (fun i hi _ => by rw [List.getElem?_append_left hi]) (.inr (Nat.le_refl _)) (snoc _)
      rw [hf, List.drop_zero, cR, List.take_left' hkl]
      simpa [cR] using this
theorem rowsOf_cR (hn : ∀ x, (enc x).length = n) (h1 : n ≠ 1) : ∀ (l : List α) (pad : List AV), rowsOf n l.length (cR enc l pad) = l.map fun x => .agg (enc x)
  | [], _ => rfl
  | x :: l, pad => by
    rw [List.length_cons, rowsOf, if_neg h1, List.map_cons]
    have e : cR enc (x :: l) pad = enc x ++ cR enc l pad := by simp [cR]
    rw [e, List.take_left' (hn x), List.drop_left' (hn x), rowsOf_cR hn h1 l pad]
/-- What a list of one's own is from now on. -/
theorem fz_C (hn : ∀ x, (enc x).length = n) (h0 : 0 < n) (h1 : n ≠ 1) {i c : Nat} {l : List α} {pad : List AV} (hc : c * n = l.length * n + pad.length) (hp : ∀ a ∈ pad, a.isAgg = false) (he : ∀ x, ∀ a ∈ enc x, a.isAgg = false) :
    fzV i (cR enc l pad) (.ms i 0 l.length c n) = .sl (l.map fun x => .agg (enc x)) .free := by
  rw [fzV, if_pos, List.drop_zero, rowsOf_cR hn h1]
  refine ⟨rfl, ?_⟩
  have hlc : l.length ≤ c := Nat.le_of_mul_le_mul_right (c := n) (by omega) h0
  simp only [fzOK, Bool.and_eq_true, decide_eq_true_eq, bne_iff_ne, List.all_eq_true, Bool.not_eq_true', cR_len hn]
  refine ⟨⟨⟨by omega, hlc⟩, by omega⟩, fun a ha => ?_⟩
  rcases List.mem_append.1 ha with ha | ha
  · obtain ⟨x, _, hx⟩ := List.mem_flatMap.1 ha
    exact he x a hx
  · exact hp a ha
end
section
variable {P : Program} {Γ : Nat → Option (List AV)}
/-- **The end of a function whose result may hold an array of its own**, a list from now on. -/
theorem ACalls.endC {f : FuncId} {args : List AV} {h : AH} {R : AV → Prop} (H : ACalls P Γ f args h fun v h' => (∃ l, h' = h ++ l) ∧ ((RB h.length (loose v) ∧ R (loose v)) ∨ ∃ q cs T, h'[h.length + q]? = some (.row cs T) ∧ RB h.length (loose (fzV (h.length + q) cs v)) ∧ R (loose (fzV (h.length + q) cs v)))) :
    ACalls P Γ f args h fun v h' => h' = h ∧ R v := by
  refine ACalls.dropL ⟨H.1, fun G w vs hI hv => (H.2 G w vs hI hv).mono fun e w' hr => ?_⟩
  obtain ⟨v, G', av, h', k1, k2, k3, k4, ⟨l, rfl⟩, k5 | ⟨q, cs, T, e1, k5⟩⟩ := hr
  · exact ⟨v, G', av, _, k1, k2, k3, k4, ⟨l, rfl⟩, k5⟩
  · obtain ⟨b, vals, q1, q2, q3⟩ := k3.freeze e1 (Froze.set e1)
    exact ⟨v, _, _, _, k1, k2.trans q1, q2, q3 _ _ k4, ⟨l.set q .frozen, hset_add h l q .frozen⟩, k5⟩
variable {h : AH} {N : Nat} {σ : Tm} {Q : Exit → Tm → AH → Prop}
/-- Code that runs off its end, what it leaves being known. -/
def onlyN (kp : List Nat) (G : Tm → AH → Prop) : Exit → Tm → AH → Prop
  | .normal, σ, h => G (keep kp σ) h
  | _, _, _ => False
@[go_sem] theorem onlyN_normal (kp : List Nat) (G : Tm → AH → Prop) : onlyN kp G .normal σ h = G (keep kp σ) h := (rfl)
theorem awp_only {c d : Code} (kp : List Nat) (G : Tm → AH → Prop) (H : AWP P Γ N c (onlyN kp G) σ h) (T : ∀ σ h, G σ h → AWP P Γ N d Q σ h) : AWP P Γ N (.seq c d) Q σ h :=
  awp_seq (H.mono fun e σ h he => by
    cases e with
    | normal => exact AWP.keep kp (T _ _ he)
    | _ => exact he.elim)
/-- The end of a round, its code not reckoned at once. -/
def roundV (kp : List Nat) (st : Tm) (I : AH → Prop) (Q : Exit → Tm → AH → Prop) : Exit → Tm → AH → Prop
  | .normal, σ, h => I h ∧ keep kp σ = st
  | e, σ, h => Q e σ h
@[go_sem] theorem roundV_normal {kp : List Nat} {st : Tm} {I : AH → Prop} : roundV kp st I Q .normal σ h = (I h ∧ keep kp σ = st) := (rfl)
@[go_sem] theorem roundV_ret {kp : List Nat} {st : Tm} {I : AH → Prop} : roundV kp st I Q .ret σ h = Q .ret σ h := (rfl)
@[go_sem] theorem roundV_exit {kp : List Nat} {st : Tm} {I : AH → Prop} (i : Nat) : roundV kp st I Q (.exit i) σ h = Q (.exit i) σ h := (rfl)
/-- A loop whose rounds are no code that is reckoned at once. -/
theorem awp_loopV {α : Type} {c : Code} (xs : List α) (L : List Nat) (st : List α → Tm) (inv : List α → List α → AH → Prop) (h1 : keep L σ = st []) (h3 : inv [] xs h)
    (H1 : ∀ don x r h, xs = don ++ x :: r → inv don (x :: r) h → AWP P Γ N c (roundV L (st (don ++ [x])) (inv (don ++ [x]) r) Q) (st don) h)
    (H0 : ∀ h, inv xs [] h → AWP P Γ N c (roundZ Q) (st xs) h) : AWP P Γ N (.loop c) Q σ h := by
  refine awp_loop (fun n σ h => ∃ don rest, n = rest.length ∧ xs = don ++ rest ∧ inv don rest h ∧ keep L σ = st don) ⟨[], xs, rfl, rfl, h3, h1⟩ fun n σ h hx => ?_
  obtain ⟨don, rest, rfl, hxs, hi, hs⟩ := hx
  refine AWP.keep L ?_
  rw [hs]
  cases rest with
  | nil =>
    rw [List.append_nil] at hxs
    subst hxs
    refine (H0 h hi).mono fun e σ h he => ?_
    cases e with
    | normal => exact he.elim
    | _ => exact he
  | cons x r =>
    refine (H1 don x r h hxs hi).mono fun e σ h he => ?_
    cases e with
    | normal => exact ⟨r.length, by simp, don ++ [x], r, rfl, by simp [hxs], he.1, he.2⟩
    | _ => exact he
theorem aOps_inv {ops : Array Oper} {K : Tm → AH → Prop} (dep : List (List Nat)) (Iv : List Nat → Tm → AH → Prop) (hg : (ops.toList.all fun o => o.guard.isNone) = true)
    (step : ∀ (i : Nat) (o : Oper), ops[i]? = some o → ∀ (done : List Nat) (σ : Tm) (h : AH), Iv done σ h → (∀ d ∈ dep.getD i [], d ∈ done) → (∀ d ∈ done, ∀ e ∈ dep.getD d [], e ∈ done) → i ∉ done → ∀ C : AV → Tm → AH → Prop, (∀ v h', Iv (i :: done) (put o.dst v σ) h' → C v σ h') → aOper P Γ o C σ h)
    (fin : ∀ (done : List Nat) (σ : Tm) (h : AH), (∀ i < ops.size, i ∈ done) → Iv done σ h → K σ h) :
    ∀ (l done : List Nat) (σ : Tm) (h : AH), okOrd ops.size dep done l = true → (∀ d ∈ done, ∀ e ∈ dep.getD d [], e ∈ done) → Iv done σ h → aOps P Γ ops.toList K (l.filterMap (ops[·]?)) σ h
  | [], done, σ, h, ho, _, h1 => by
    rw [okOrd, List.all_eq_true] at ho
    exact fin done σ h (fun i hi => by simpa using ho i (List.mem_range.2 hi)) h1
  | i :: r, done, σ, h, ho, hcl, h1 => by
    simp only [okOrd, Bool.and_eq_true, List.all_eq_true, Bool.not_eq_true'] at ho
    obtain ⟨⟨⟨k1, k2⟩, k3⟩, k4⟩ := ho
    have hi : i < ops.size := by simpa [Nat.blt_eq] using k1
    have hnd : i ∉ done := by simpa using k3
    have eo : ops[i]? = some ops[i] := by simp [hi]
    rw [List.filterMap_cons, eo]
    simp only
    have hgi : (ops[i]).guard = none := by
      have := List.all_eq_true.1 hg ops[i] (by simp)
      simpa using this
    rw [aOps, hgi]
    simp only
    refine step i ops[i] eo done σ h h1 (fun d hd => by simpa using k2 d hd) hcl hnd _ fun v h' hv => ?_
    exact aOps_inv dep Iv hg step fin r (i :: done) _ h' k4 (fun d hd e he => by
      rcases List.mem_cons.1 hd with rfl | hd
      · exact List.mem_cons_of_mem _ (by simpa using k2 e he)
      · exact List.mem_cons_of_mem _ (hcl d hd e he)) hv
/-- **A region that draws its order**, reckoned operation by operation, what holds meanwhile being named. -/
theorem awp_any_inv {id : Nat} {ops : Array Oper} (dep : List (List Nat)) (Iv : List Nat → Tm → AH → Prop) (hm : P.follows .mixedOrders = true) (hd : dstOK N ops = true) (hg : (ops.toList.all fun o => o.guard.isNone) = true)
    (ho : ((ordersOf ops ops.size (Array.replicate ops.size false)).all fun l => okOrd ops.size dep [] l) = true) (h0 : Iv [] σ h)
    (step : ∀ (i : Nat) (o : Oper), ops[i]? = some o → ∀ (done : List Nat) (σ : Tm) (h : AH), Iv done σ h → (∀ d ∈ dep.getD i [], d ∈ done) → (∀ d ∈ done, ∀ e ∈ dep.getD d [], e ∈ done) → i ∉ done → ∀ C : AV → Tm → AH → Prop, (∀ v h', Iv (i :: done) (put o.dst v σ) h' → C v σ h') → aOper P Γ o C σ h)
    (fin : ∀ (done : List Nat) (σ : Tm) (h : AH), (∀ i < ops.size, i ∈ done) → Iv done σ h → Q .normal σ h) :
    AWP P Γ N (.region id ops true) Q σ h :=
  awp_any hm hd fun l hl => aOps_inv dep Iv hg step fin l [] σ h (List.all_eq_true.1 ho l hl) (fun _ h => by simp at h) h0
/-- A range over a function, the heap seen place by place. -/
theorem awp_rangeFuncI {g : Operand} {ps : Array Tmp} {assign body : Code} {gf : FuncId} {first caps : List AV} (hg : ev Γ σ g = .func gf first caps)
    (H : ∀ li : LI, li = ⟨N, σ, ps, assign, body, none⟩ → ACalls P Γ gf (first ++ [.yield h.length] ++ caps) (h ++ [.loop .ready none li]) fun _ h' => ∃ st pe, h'[h.length]? = some (.loop st pe li) ∧ (∀ (i : Nat) (ob : AObj), i ≠ h.length → h'[i]? = some ob → h[i]? = some ob ∨ ∀ st pe li, ob ≠ .loop st pe li) ∧ st ≠ .busy ∧ afterLoop P Γ N Q σ (h'.set h.length .dead) pe) :
    AWP P Γ N (.rangeFunc g ps assign body) Q σ h := awp_rangeFuncKL hg fun li e => (H li e).mono fun _ h' ⟨st, pe, hL, hnl, hst, ha⟩ => by
  have hlt := (List.getElem?_eq_some_iff.1 hL).1
  have hg' := (List.getElem?_eq_some_iff.1 hL).2
  have hset : h'.set h.length .dead = h'.take h.length ++ .dead :: h'.drop (h.length + 1) := by rw [List.set_eq_take_append_cons_drop, if_pos hlt]
  refine ⟨h'.take h.length, st, pe, h'.drop (h.length + 1), ?_, by rw [List.length_take]; omega, fun i ob e => ?_, hst, by rw [← hset]; exact ha⟩
  · have := List.take_append_drop h.length h'
    rw [List.drop_eq_getElem_cons hlt, hg'] at this
    exact this.symm
  · rw [← hset, List.getElem?_set] at e
    by_cases hi : h.length = i
    · rw [if_pos hi, if_pos (hi ▸ hlt)] at e
      cases e
      exact .inr fun _ _ _ => by simp
    · rw [if_neg hi] at e
      exact hnl i ob (Ne.symm hi) e
end
end Go.Abs

/- A region that draws its order, its last operation being ordered with all others: that one may panic. It says nothing of any program; no conditions. -/
set_option linter.unusedSimpArgs false
set_option linter.unusedVariables false
namespace Go.Abs
open Go Go.RowKit

def QQ (Q : Exit → Tm → AH → Prop) : Exit → Tm → AH → Prop := fun e σ h => ∃ σ3, Eqv σ σ3 ∧ Q e σ3 h
section
variable {P : Program} {Γ : Nat → Option (List AV)} {G : Gh} {h : AH} {w : World} {N B : Nat} {σ σ' : Tm} {Q : Exit → Tm → AH → Prop} {ops : Array Oper}

theorem bar_okX (hd : drawOK ops = true) (hN : dstOK N ops = true) {c : Nat} {o : Oper} (ho : ops[c]? = some o) (hB : barOK ops c = true) (hlast : c + 1 = ops.size) {G0 : Gh} {ds : List Deferred} {r : Option Nat} :
    ∀ (fuel : Nat) (listed : Array Bool) (a : Act) (w : World) (G : Gh) (σ : Tm) (h : AH), listed.size = ops.size → ClosedL ops listed → listed.getD c true = false → (rem ops listed).length ≤ fuel → G0.le G → Inv Γ G h w → TR N G σ a.tmps → a.defers = ds → Sep σ (seps ops.toList) →
      (∃ m, Seq1 P Γ ops.toList m h (((rem ops listed).filter (· < c)).filterMap (ops[·]?)) σ fun σ h => ∃ σ3, Eqv σ σ3 ∧
        aOpsX P Γ B ops.toList Q [o] σ3 h) →
      wpAnyIn (Fr r) 0 P .any ops (Post Γ N G0 ds (QQ Q)) fuel listed a w := by
  have hc1 : c < ops.size := (Array.getElem?_eq_some_iff.1 ho).1
  have hdst : ∀ (i : Nat) (o : Oper), ops[i]? = some o → ∀ x, o.dst = some x → x < N := fun i o ho x hx => by
    have := List.all_eq_true.1 hN o (by simpa using Array.mem_of_getElem? ho)
    rw [hx] at this
    exact Nat.le_of_ble_eq_true this
  have hrr : ∀ {listed : Array Bool} {i : Nat}, listed.size = ops.size → i ∈ Region.ready .any ops listed → i ∈ rem ops listed := fun hs hi => by
    obtain ⟨h0, o, ho, _⟩ := mem_ready.1 hi
    exact mem_rem.2 ⟨(Array.getElem?_eq_some_iff.1 ho).1, h0⟩
  have hleast : ∀ {listed : Array Bool}, listed.size = ops.size → rem ops listed ≠ [] → Region.ready .any ops listed ≠ [] := fun {listed} hs hne hr => by
    cases hl : rem ops listed with
    | nil => exact hne hl
    | cons m L =>
      obtain ⟨hm1, hm2⟩ := mem_rem.1 (show m ∈ rem ops listed by rw [hl]; exact List.mem_cons_self ..)
      have hmin : ∀ j ∈ rem ops listed, m ≤ j := fun j hj => by
        have hp := rem_lt (ops := ops) listed
        rw [hl] at hp hj
        rcases List.mem_cons.1 hj with rfl | hj
        · exact Nat.le_refl _
        · exact Nat.le_of_lt ((List.pairwise_cons.1 hp).1 j hj)
      have : m ∈ Region.ready .any ops listed := mem_ready.2 ⟨hm2, ops[m], Array.getElem?_eq_getElem hm1, fun e he hb => by
        have hlt := (drawOK_at hd (Array.getElem?_eq_getElem hm1)).2.1 e he hb
        rw [getD_ff (by rw [hs]; omega)]
        cases hx : listed.getD e.on true with
        | true => rfl
        | false => have := hmin e.on (mem_rem.2 ⟨by omega, hx⟩); omega⟩
      rw [hr] at this; cases this
  intro fuel
  induction fuel with
  | zero =>
    intro listed a w G σ h hs hc hcl hf hle hI ht had hsp H
    have hr : rem ops listed = [] := List.length_eq_zero_iff.1 (by omega)
    have : c ∈ rem ops listed := mem_rem.2 ⟨hc1, hcl⟩
    rw [hr] at this; cases this
  | succ fuel ih =>
    intro listed a w G σ h hs hc hcl hf hle hI ht had hsp H
    have hcm : c ∈ rem ops listed := mem_rem.2 ⟨hc1, hcl⟩
    refine ⟨fun hr => absurd hr (hleast hs fun e => by rw [e] at hcm; cases hcm), fun i hi => ?_⟩
    have him := hrr hs hi
    obtain ⟨hi0, oi, hoi, hedges⟩ := mem_ready.1 hi
    obtain ⟨L1, L2, e1, e2, e3⟩ := rem_set hs him
    obtain ⟨hb1, hb2, hb3⟩ := drawOK_at hd hoi
    have hil : i < ops.size := (Array.getElem?_eq_some_iff.1 hoi).1
    have hpre : ∀ j, j < ops.size → ((Region.before ops).getD i 0).testBit j = true → listed.getD j true = true := fun j hj hbit => by
      rw [hb1] at hbit
      rcases foldB_aux _ j _ _ hbit with h0 | ⟨e, he, hbd, hor⟩
      · simp at h0
      · have hel := hedges e (by simpa using he) hbd
        have helt := hb2 e (by simpa using he) hbd
        rw [getD_ff (by omega)] at hel
        rcases hor with rfl | hor
        · exact hel
        · exact hc e.on (by omega) hel j hj hor
    have hc' : ClosedL ops (listed.setIfInBounds i true) := fun k hk hkl j hj hbit => by
      by_cases hji : j = i
      · subst hji; exact getD_set_self (by omega) _
      · rw [getD_set_other (fun e => hji e.symm)]
        by_cases hki : k = i
        · subst hki; exact hpre j hj hbit
        · rw [getD_set_other (fun e => hki e.symm)] at hkl
          exact hc k hk hkl j hj hbit
    have hf' : (rem ops (listed.setIfInBounds i true)).length ≤ fuel := by rw [e1] at hf; rw [e2]; simp at hf ⊢; omega
    obtain ⟨m, H⟩ := H
    have hlt12 : ∀ j ∈ L2, i < j := fun j hj => by
      have hp := rem_lt (ops := ops) listed
      rw [e1] at hp
      exact (List.pairwise_cons.1 (List.pairwise_append.1 hp).2.1).1 j hj
    rcases Nat.lt_trichotomy i c with hic | hic | hic
    · -- ahead of it
      have hfl : (rem ops listed).filter (· < c) = L1 ++ i :: L2.filter (· < c) := by
        rw [e1, List.filter_append, List.filter_cons_of_pos (by simpa using hic), List.filter_eq_self.2 fun j hj => by have := (e3 j hj).1; simp; omega]
      have hfl2 : (rem ops (listed.setIfInBounds i true)).filter (· < c) = L1 ++ L2.filter (· < c) := by
        rw [e2, List.filter_append, List.filter_eq_self.2 fun j hj => by have := (e3 j hj).1; simp; omega]
      rw [hfl, List.filterMap_append, List.filterMap_cons, hoi] at H
      simp only at H
      have hap : ∀ x ∈ L1.filterMap (ops[·]?), apart1 ops.toList oi x = true ∧ x ∈ ops.toList := fun x hx => by
        obtain ⟨j, hj, hjx⟩ := List.mem_filterMap.1 hx
        obtain ⟨j1, j2⟩ := e3 j hj
        refine ⟨?_, by simpa using Array.mem_of_getElem? hjx⟩
        refine hb3 j x j1 hjx ?_
        cases hbit : ((Region.before ops).getD i 0).testBit j with
        | false => rfl
        | true => rw [hpre j (by omega) hbit] at j2; cases j2
      obtain ⟨v, h2, s1, _, s2⟩ := Seq1.pull _ _ _ _ hap hsp H
      have s3 := Seq1.mono _ _ _ _ (fun σ h (k : ∃ σ', Eqv σ σ' ∧ ∃ σ3, Eqv σ' σ3 ∧ _) => by
        obtain ⟨σ', k1, σ3, k2, k3⟩ := k
        exact (⟨σ3, fun i => (k1 i).trans (k2 i), k3⟩ : ∃ σ3, Eqv σ σ3 ∧ aOpsX P Γ B ops.toList Q [o] σ3 h)) s2
      rw [← List.filterMap_append, ← hfl2] at s3
      have hcl' : (listed.setIfInBounds i true).getD c true = false := by rw [getD_set_other (by omega)]; exact hcl
      have hdo := hdst i oi hoi
      have hsp' : ∀ v', Sep (put oi.dst v' σ) (seps ops.toList) := fun v' => hsp.put (by simpa using Array.mem_of_getElem? hoi)
      unfold wpOpIn
      simp only [hoi]
      have run : DetV P Γ oi σ h v h2 → oi.wpIn (Fr r) 0 P a w (wpAnyIn (Fr r) 0 P .any ops (Post Γ N G0 ds (QQ Q)) fuel (listed.setIfInBounds i true)) (Post Γ N G0 ds (QQ Q)) := fun H =>
        aOper0_ok hI ht H fun u v' G' h' w' k1 k2 k3 k4 => by
          obtain ⟨rfl, rfl⟩ := k4
          exact ih _ _ w' G' _ _ (by simpa using hs) hc' hcl' hf' (hle.trans k1) k2 ((ht.mono k1).put hdo k3) ((put_defers a oi.dst u).trans had) (hsp' _) ⟨m, s3⟩
      by_cases hal : isAl oi = true
      · obtain ⟨ha1, ha2⟩ := isAl_al hal
        unfold Region.wanted
        simp only [ha2, if_true]
        exact (s1.al hal).ok hI ht ha1 fun u G' w' k1 k2 k3 =>
          ih _ _ w' G' _ _ (by simpa using hs) hc' hcl' hf' (hle.trans k1) k2 ((ht.mono k1).put hdo k3) ((put_defers a oi.dst u).trans had) (hsp' _) ⟨m, s3⟩
      have s1 := s1.no hal
      unfold Step1 at s1
      unfold Region.wanted
      split at s1
      · rename_i hg
        simp only [hg, if_true]
        exact run s1
      · rename_i j want hg
        simp only [hg]
        obtain ⟨t, b, hj, hb, hor⟩ := s1
        rw [dstAt_eq, Array.getElem?_toList] at hj
        rw [yielded_gv ht hj hb]
        rcases hor with ⟨rfl, hv⟩ | ⟨hbn, rfl, rfl⟩
        · simp only [beq_self_eq_true, if_true]; exact run hv
        · have : (b == some want) = false := by simpa using hbn
          simp only [this, Bool.false_eq_true, if_false]
          exact ⟨fun _ _ => trivial, ih _ _ w G _ _ (by simpa using hs) hc' hcl' hf' hle hI (ht.put hdo (VR.undef G)) ((put_defers a oi.dst undef).trans had) (hsp' _) ⟨m, s3⟩⟩
    · -- itself
      subst hic
      obtain rfl : oi = o := Option.some.inj (hoi.symm.trans ho)
      have hall : ∀ j, j < i → listed.getD j true = true := fun j hj => hpre j (by omega) ((barOK_at hB (by omega)).1 hj)
      have hL1 : L1 = [] := by
        cases hL : L1 with
        | nil => rfl
        | cons j _ =>
          have := e3 j (by rw [hL]; exact List.mem_cons_self ..)
          rw [hall j this.1] at this; cases this.2
      subst hL1
      rw [List.nil_append] at e1 e2
      have hL2 : L2 = (List.range ops.size).filter (i < ·) := by
        have : rem ops (listed.setIfInBounds i true) = (List.range ops.size).filter (i < ·) := by
          unfold rem
          refine List.filter_congr fun j hj => ?_
          have hjs := List.mem_range.1 hj
          rcases Nat.lt_trichotomy j i with h | h | h
          · rw [getD_set_other (by omega), hall j h]; simp; omega
          · subst h; rw [getD_set_self (by omega)]; simp
          · rw [getD_set_other (by omega)]
            have : listed.getD j true = false := by
              cases hx : listed.getD j true with
              | false => rfl
              | true => rw [hc j hjs hx i hil ((barOK_at hB hjs).2 h)] at hcl; cases hcl
            rw [this]; simp [h]
        rw [← e2, this]
      have hfl : (rem ops listed).filter (· < i) = [] := by
        rw [e1, List.filter_cons_of_neg (by simp)]
        exact List.filter_eq_nil_iff.2 fun j hj => by have := hlt12 j hj; simp; omega
      rw [hfl, List.filterMap_nil] at H
      obtain ⟨σ3, hev, H⟩ := (show ∃ σ3, _ from H)
      have hdo := hdst i oi hoi
      have hrem : rem ops (listed.setIfInBounds i true) = [] := by
        rw [e2, hL2]
        exact List.filter_eq_nil_iff.2 fun j hj => by have := List.mem_range.1 hj; simp; omega
      have hrd : Region.ready .any ops (listed.setIfInBounds i true) = [] := by
        cases hx : Region.ready .any ops (listed.setIfInBounds i true) with
        | nil => rfl
        | cons k l =>
          have := hrr (listed := listed.setIfInBounds i true) (by simpa using hs) (show k ∈ _ by rw [hx]; exact List.mem_cons_self ..)
          rw [hrem] at this; cases this
      have fin : ∀ (σ' : Tm) (h' : AH) (G' : Gh) (w' : World) (a' : Act), Q .normal σ' h' → G0.le G' → Inv Γ G' h' w' → TR N G' σ' a'.tmps → a'.defers = ds →
          wpAnyIn (Fr r) 0 P .any ops (Post Γ N G0 ds (QQ Q)) fuel (listed.setIfInBounds i true) a' w' := fun σ' h' G' w' a' H' k1 k2 k3 k4 => by
        have hp : Post Γ N G0 ds (QQ Q) .normal a' w' := ⟨G', σ', h', [], k1, k2, k3, by simpa using k4, fun D hD => by simp at hD, List.nodup_nil, σ', fun _ => rfl, H'⟩
        cases fuel with
        | zero => exact ⟨hrd, hp⟩
        | succ n => exact ⟨fun _ => hp, fun k hk => by rw [hrd] at hk; cases hk⟩
      have hmem : oi ∈ ops.toList := by simpa using Array.mem_of_getElem? hoi
      have ht3 := ht.eqv hev
      have hsp3 := hsp.eqv hev
      clear ht hsp
      unfold wpOpIn
      simp only [hoi]
      have run : ∀ σ, TR N G σ a.tmps → Sep σ (seps ops.toList) → aOp1X P Γ B oi (fun v σ h => aOpsX P Γ B ops.toList Q [] (put oi.dst v σ) h) Q σ h →
          oi.wpIn (Fr r) 0 P a w (wpAnyIn (Fr r) 0 P .any ops (Post Γ N G0 ds (QQ Q)) fuel (listed.setIfInBounds i true)) (Post Γ N G0 ds (QQ Q)) := fun σ ht hsp H =>
        aOp1X_ok hI ht H (fun u v G' h' w' h1 h2 h3 h4 =>
          fin _ h' G' w' _ h4 (hle.trans h1) h2 ((ht.mono h1).put hdo h3) ((put_defers a oi.dst u).trans had))
          fun u G' h' w' h1 h2 h3 => ⟨G', σ, h', [], hle.trans h1, h2, ht.mono h1, by simpa using had, fun D hD => by simp at hD, List.nodup_nil, σ, fun _ => rfl, h3⟩
      have pass : ∀ σ, TR N G σ a.tmps → Sep σ (seps ops.toList) → aOpsX P Γ B ops.toList Q [] (put oi.dst (.tuple []) σ) h →
          (∀ f, oi.about P w a.eval = some f → (Fr r).fn f) ∧ wpAnyIn (Fr r) 0 P .any ops (Post Γ N G0 ds (QQ Q)) fuel (listed.setIfInBounds i true) (a.put oi.dst undef) w := fun σ ht hsp H =>
        ⟨fun _ _ => trivial, fin _ h G w _ H hle hI (ht.put hdo (VR.undef G)) ((put_defers a oi.dst undef).trans had)⟩
      simp only [aOpsX] at H
      unfold Region.wanted
      split at H
      · rename_i hg
        simp only [hg, if_true]
        exact run σ3 ht3 hsp3 H
      · rename_i j want hg
        simp only [hg]
        unfold aDst at H
        split at H
        · rename_i t hj
          rw [dstAt_eq, Array.getElem?_toList] at hj
          rcases aBoolG_inv H with ⟨b, hb, H1, H2⟩ | ⟨hb, H⟩
          · rw [yielded_ok ht3 hj hb]
            by_cases hbw : b = want
            · subst hbw; simp only [beq_self_eq_true, if_true]; exact run _ (ht3.same hb) (hsp3.eqv (Eqv.same hb)) (H1 rfl)
            · have : (some b == some want) = false := by cases b <;> cases want <;> simp_all
              simp only [this, Bool.false_eq_true, if_false]
              have hbn : b = !want := by cases b <;> cases want <;> simp_all
              exact pass _ (ht3.same (hb.trans (by rw [hbn]))) (hsp3.eqv (Eqv.same (hb.trans (by rw [hbn])))) (H2 hbn)
          · rw [yielded_none ht3 hj hb]
            have : ((none : Option Bool) == some want) = false := rfl
            simp only [this, Bool.false_eq_true, if_false]
            exact pass _ ht3 hsp3 H
        · exact H.elim
    · -- behind it: not yet
      have := hpre c hc1 ((barOK_at hB hil).2 hic)
      rw [this] at hcl; cases hcl


theorem awp_drawX {id c : Nat} {o : Oper} (ho : ops[c]? = some o) (hlast : c + 1 = ops.size) (hB : barOK ops c = true) (hm : P.follows .mixedOrders = true) (hd : drawOK ops = true) (hN : dstOK N ops = true) (hsp : Sep σ (seps ops.toList))
    (H : aDets P Γ ops.toList (fun σ h => aOpsX P Γ B ops.toList Q [o] σ h) (ops.toList.take c) σ h) : AWP P Γ N (.region id ops true) Q σ h := fun r G w a hr hI ht => by
  have hc1 : c < ops.size := (Array.getElem?_eq_some_iff.1 ho).1
  have hs := aDets_seq _ 0 _ σ σ (Nat.zero_le _) (fun _ => rfl) H
  have e2 : ((List.range ops.size).filter (· < c)).filterMap (ops[·]?) = ops.toList.take c := by
    have := range_take ops.toList c (by simp; omega)
    simpa using this
  rw [← e2] at hs
  refine wpIn_mono (Q := Post Γ N G a.defers (QQ Q)) ?_ fun e a' w' hp => ?_
  · refine wpIn_region_any hm (bar_okX (B := B) hd hN ho hB hlast ops.size _ a _ G σ h (by simp) (fun i hi hl => ?_) ?_ ?_ (Gh.le.refl G) ?_ ht rfl hsp ?_)
    · simp [Array.getD_eq_getD_getElem?, hi] at hl
    · simp [Array.getD_eq_getD_getElem?, hc1]
    · rw [rem_all]; simp
    · exact hI.later (Nat.le_refl _) rfl rfl rfl (fun _ _ => rfl)
    · rw [rem_all]; exact ⟨0, hs⟩
  · obtain ⟨G', σ', h', Ds, h1, h2, h3, h4, h5, h6, σ3, k1, k2⟩ := hp
    exact ⟨G', σ3, h', Ds, h1, h2, ⟨h3.1, fun i => by rw [← k1 i]; exact h3.2 i⟩, h4, h5, h6, k2⟩
end
end Go.Abs

/- A range over an iterator whose contract is told by the invariant of whoever consumes it. It says nothing of any program; no conditions. -/
set_option linter.unusedSimpArgs false
set_option linter.unusedVariables false
namespace Go.Abs
open Go Go.RowKit

/-- An iterator yields items, one after the other, to whoever keeps an invariant. -/
def IterC {α : Type} (P : Program) (Γ : Nat → Option (List AV)) (f : FuncId) (caps : List AV) (enc : α → List AV) (items : List α) : Prop :=
  ∀ (L : Nat) (I : List α → AH → Prop) (S : AH → Prop) (h0 : AH),
    (∀ don h l, NoLoop l → I don h → I don (h ++ l)) → (∀ h l, NoLoop l → S h → S (h ++ l)) →
    (∀ don x r h, items = don ++ x :: r → I don h → AYield P Γ L (enc x) h fun v h' => (v = .bool true ∧ I (don ++ [x]) h') ∨ (v = .bool false ∧ S h')) →
    I [] h0 → ACalls P Γ f ([.yield L] ++ caps) h0 fun _ h' => I items h' ∨ S h'
section
variable {P : Program} {Γ : Nat → Option (List AV)} {N : Nat} {σ : Tm} {Q : Exit → Tm → AH → Prop}
theorem NoLoop.app2 {a b : AH} (ha : NoLoop a) (hb : NoLoop b) : NoLoop (a ++ b) := fun ob ho => (List.mem_append.1 ho).elim (ha ob) (hb ob)
theorem NoLoop.none : NoLoop [] := fun ob ho => by cases ho
theorem NoLoop.row1 (cs : List AV) (T : TypeId) : NoLoop [.row cs T] := fun ob ho st pe lj e => by rw [List.mem_singleton] at ho; subst ho; cases e
/-- **A range over an iterator.** -/
theorem awp_iter {α : Type} {enc : α → List AV} {items : List α} {g : Operand} {ps : Array Tmp} {assign body : Code} {gf : FuncId} {caps : List AV} (hit : IterC P Γ gf caps enc items) (hg : ev Γ σ g = .func gf [] caps)
    (K : AH) (F : List α → AH) (Fs : AH) (ec : Code) (J : List α → Prop) (St : Prop) (c : Nat) (hF : ∀ don, (F don).length = c) (hFn : ∀ don, NoLoop (F don)) (hFs : Fs.length = c) (hFsn : NoLoop Fs) (hJ : J [])
    (yl : ∀ li : LI, li = ⟨N, σ, ps, assign, body, none⟩ → ∀ don y r Y, items = don ++ y :: r → J don → AYield P Γ (K.length + c) (enc y) (K ++ F don ++ .loop .ready none li :: Y) fun v h' => (v = .bool true ∧ J (don ++ [y]) ∧ ∃ Z, NoLoop Z ∧ h' = K ++ F (don ++ [y]) ++ .loop .ready none li :: (Y ++ Z)) ∨ (v = .bool false ∧ St ∧ ∃ Z, NoLoop Z ∧ h' = K ++ Fs ++ .loop .done (some ec) li :: (Y ++ Z)))
    (hN : J items → ∀ Y, Q .normal σ (K ++ F items ++ .dead :: Y))
    (hS : St → ∀ Y, AWP P Γ N ec Q σ (K ++ Fs ++ .dead :: Y)) : AWP P Γ N (.rangeFunc g ps assign body) Q σ (K ++ F []) := by
  refine awp_rangeFuncKL hg fun li hli => ?_
  have hl : ∀ A : AH, A.length = c → (K ++ A).length = K.length + c := fun A e => by rw [List.length_append, e]
  rw [hl _ (hF [])]
  have nol : ∀ (A : AH) (Y : AH), A.length = c → NoLoop A → NoLoop Y → ∀ (i : Nat) (ob : AObj), (K ++ A ++ .dead :: Y)[i]? = some ob → (K ++ F [])[i]? = some ob ∨ ∀ st pe li, ob ≠ .loop st pe li := fun A Y e hA hY i ob he => by
    by_cases hi : i < K.length
    · rw [List.append_assoc, List.getElem?_append_left hi] at he
      exact .inl (by rw [List.getElem?_append_left hi]; exact he)
    · rw [List.append_assoc, List.getElem?_append_right (by omega)] at he
      right
      rcases List.mem_append.1 (List.mem_of_getElem? he) with h | h
      · exact hA ob h
      · rcases List.mem_cons.1 h with rfl | h
        · exact fun _ _ _ => by simp
        · exact hY ob h
  refine (hit (K.length + c) (fun don hx => J don ∧ ∃ Y, NoLoop Y ∧ hx = K ++ F don ++ .loop .ready none li :: Y) (fun hx => St ∧ ∃ Y, NoLoop Y ∧ hx = K ++ Fs ++ .loop .done (some ec) li :: Y) _ ?_ ?_ ?_ ⟨hJ, [], NoLoop.none, rfl⟩).mono ?_
  · rintro don hx l hl ⟨j, Y, hY, rfl⟩
    exact ⟨j, Y ++ l, hY.app2 hl, by simp⟩
  · rintro hx l hl ⟨j, Y, hY, rfl⟩
    exact ⟨j, Y ++ l, hY.app2 hl, by simp⟩
  · rintro don x r hx hd ⟨j, Y, hY, rfl⟩
    refine (yl li hli don x r Y hd j).mono ?_
    rintro v h' (⟨e, j2, Z, hZ, rfl⟩ | ⟨e, j2, Z, hZ, rfl⟩)
    · exact .inl ⟨e, j2, _, hY.app2 hZ, rfl⟩
    · exact .inr ⟨e, j2, _, hY.app2 hZ, rfl⟩
  · rintro v h' (⟨j, Y, hY, rfl⟩ | ⟨j, Y, hY, rfl⟩)
    · refine ⟨K ++ F items, .ready, none, Y, rfl, hl _ (hF _), nol _ _ (hF _) (hFn _) hY, by simp, ?_⟩
      rw [afterLoop_none]
      exact hN j Y
    · refine ⟨K ++ Fs, .done, some ec, Y, rfl, hl _ hFs, nol _ _ hFs hFsn hY, by simp, ?_⟩
      exact hS j Y
end
end Go.Abs
