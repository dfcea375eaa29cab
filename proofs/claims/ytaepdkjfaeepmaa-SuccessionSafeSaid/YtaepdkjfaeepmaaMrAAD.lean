/- Texts joined: AbsZd. No conditions. -/
import Derived.Test.YtaepdkjfaeepmaaMrAAZ
import Derived.Test.YtaepdkjfaeepmaaMrG
import Derived.Test.YtaepdkjfaeepmaaMrD
/- Calls of methods by their names; arrays of one's own with rows of several cells. It says nothing of any program; no conditions. -/
set_option linter.unusedSimpArgs false
set_option linter.unusedVariables false
namespace Go.Abs
open Go Go.RowKit

section
variable {P : Program} {Γ : Nat → Option (List AV)} {G : Gh} {h : AH} {w : World} {N : Nat} {σ : Tm}

/-- What a type's table says of a method that stands in the type itself: the function, and whether it wants the pointer. -/
def mrow (P : Program) (t : TypeId) (name : String) : Option (FuncId × Bool) :=
  match P.info? t with
  | some i => (match i.methods.find? (·.name == name) with
    | some m => if m.path.isEmpty then m.func else none
    | none => none)
  | none => none

theorem AMeth.ptr {t e : TypeId} {v : AV} {name : String} {f : FuncId} (hu : P.underlying t = some (.pointer e)) (hm : mrow P t name = some (f, true)) : AMeth P Γ t v name h f v := fun G w u hI hv => by
  refine ⟨u, ?_, hv⟩
  unfold mrow at hm
  split at hm
  · rename_i i hi
    split at hm
    · rename_i m hf
      split at hm
      · rename_i hp
        have hp' : m.path = #[] := by simpa using hp
        obtain ⟨k, hfuel⟩ : ∃ k, P.types.size + Made.depth = k + 1 := ⟨P.types.size + 99, rfl⟩
        rw [hfuel, method]
        simp only [typeInfo, Sem.run_bind, run_program, Result.andThen_ok, hi, Sem.run_pure, hf, hp', follow, hm, receiverAt, underlying, hu, Place.get]
      · cases hm
    · cases hm
  · cases hm

theorem wrap (xt : TypeId) (ad : Addr) (name : String) : Builtin.ssaWrapNilChk_ #[xt] xt #[.pointer (some ad), strVal "", strVal name] = pure (.pointer (some ad)) := rfl
theorem AMeth.cell {t e : TypeId} {v x : AV} {name : String} {f : FuncId} (hu : P.underlying t = some (.pointer e)) (hm : mrow P t name = some (f, false)) (hl : aLoad P e v h fun y _ => y = x) : AMeth P Γ t v name h f x := fun G w u hI hv => by
  obtain ⟨ad, u', av, rfl, r, hv', rfl⟩ := loadAt_same hI hv hl
  refine ⟨u', ?_, hv'⟩
  unfold mrow at hm
  split at hm
  · rename_i i hi
    split at hm
    · rename_i m hf
      split at hm
      · rename_i hp
        have hp' : m.path = #[] := by simpa using hp
        obtain ⟨k, hfuel⟩ : ∃ k, P.types.size + Made.depth = k + 1 := ⟨P.types.size + 99, rfl⟩
        rw [hfuel, method]
        simp only [typeInfo, Sem.run_bind, run_program, Result.andThen_ok, hi, Sem.run_pure, hf, hp', follow, hm, receiverAt, underlying, hu, Place.get, hp, if_true, wrap, asAddr, pure_bind, r, show (#[] : Array FieldStep).isEmpty = true from rfl]
      · cases hm
    · cases hm
  · cases hm

theorem aInvoke_ptr {t e : TypeId} {v : AV} {name : String} {args : List AV} {R : AV → AH → Prop} (f : FuncId) (hu : P.underlying t = some (.pointer e)) (hm : mrow P t name = some (f, true))
    (H : ACalls P Γ f (v :: args) h R) : aInvoke P Γ (.iface t v) name args h R := ⟨f, v, AMeth.ptr hu hm, H⟩
theorem aInvoke_cell {t e : TypeId} {v : AV} {name : String} {args : List AV} {R : AV → AH → Prop} (f : FuncId) (x : AV) (hu : P.underlying t = some (.pointer e)) (hm : mrow P t name = some (f, false))
    (hl : aLoad P e v h fun y _ => y = x) (H : ACalls P Γ f (x :: args) h R) : aInvoke P Γ (.iface t v) name args h R := ⟨f, x, AMeth.cell hu hm hl, H⟩
@[go_sem] theorem aOp1_invoke (r : Operand) (name : String) (as : List Operand) (ts : Array TypeId) (K : AV → Tm → AH → Prop) : aOp1 P Γ (.call { callee := .invoke r name, args := as.toArray, argTypes := ts }) K σ h = aInvoke P Γ (ev Γ σ r) name (as.map (ev Γ σ)) h (aNext K σ) := (rfl)

/-- A contract from the code, what appends make being of one's own. -/
theorem acalls_codeB {f : FuncId} {fn : Func} {c : Code} {args : List AV} {rs : List ResultVar} {R : AV → AH → Prop} (hf : P.funcs[f]? = some fn) (hb : fn.body = some c) (hn : (fn.name == "runtime.NumGoroutine") = false)
    (hN : Nat.ble args.length fn.ntmps = true) (hM : Nat.ble fn.ntmps 1000001 = true) (hrs : fn.results = rs.toArray) (hm : P.follows .mixedOrders = true) (hc : codeOK fn.ntmps c = true) (H : aCode P Γ fn.ntmps c (endA P rs R) ((1000001, .tuple []) :: argsT 0 args) h) : ACalls P Γ f args h R :=
  acalls_of_awp hf hb hn hN hrs (AWP.mark2 (by simpa [Nat.ble_eq] using hM) (aCode_ok hm c _ _ _ hc H))
end

/-! ### Rows of several cells -/
section
variable {α : Type} (enc : α → List AV) (n : Nat)

def cR (l : List α) (pad : List AV) : List AV := l.flatMap enc ++ pad
variable {enc n}
theorem flatMap_len (hn : ∀ x, (enc x).length = n) (l : List α) : (l.flatMap enc).length = l.length * n := by
  induction l with
  | nil => simp
  | cons x l ih => rw [List.flatMap_cons, List.length_append, hn, ih, List.length_cons, Nat.succ_mul]; omega
theorem cR_len (hn : ∀ x, (enc x).length = n) (l : List α) (pad : List AV) : (cR enc l pad).length = l.length * n + pad.length := by rw [cR, List.length_append, flatMap_len hn]
theorem cR_split {l : List α} {i : Nat} {x : α} (hx : l[i]? = some x) (pad : List AV) : cR enc l pad = (l.take i).flatMap enc ++ (enc x ++ cR enc (l.drop (i + 1)) pad) := by
  have hi := (List.getElem?_eq_some_iff.1 hx).1
  have e : l = l.take i ++ x :: l.drop (i + 1) := by
    rw [List.getElem?_eq_getElem hi] at hx
    cases hx
    simp
  conv => lhs; rw [e]
  simp [cR]
theorem cR_drop (hn : ∀ x, (enc x).length = n) {l : List α} {i : Nat} {x : α} (hx : l[i]? = some x) (pad : List AV) : (cR enc l pad).drop (i * n) = enc x ++ cR enc (l.drop (i + 1)) pad := by
  have hi := (List.getElem?_eq_some_iff.1 hx).1
  rw [cR_split hx, List.drop_left' (by rw [flatMap_len hn, List.length_take]; congr 1; omega)]
theorem cR_set (hn : ∀ x, (enc x).length = n) {l : List α} {i : Nat} (hi : i < l.length) (y : α) (pad : List AV) : (cR enc l pad).take (i * n) ++ enc y ++ (cR enc l pad).drop (i * n + n) = cR enc (l.set i y) pad := by
  have hx := List.getElem?_eq_getElem hi
  have hk : ((l.take i).flatMap enc).length = i * n := by rw [flatMap_len hn, List.length_take]; congr 1; omega
  have e2 : cR enc (l.set i y) pad = (l.take i).flatMap enc ++ (enc y ++ cR enc (l.drop (i + 1)) pad) := by
    have := cR_split (enc := enc) (l := l.set i y) (i := i) (x := y) (by simp [hi]) pad
    rw [this, List.take_set_of_le (Nat.le_refl _), List.drop_set_of_lt (Nat.lt_succ_self _)]
  rw [e2, ← List.drop_drop, cR_drop hn hx, List.drop_left' (hn _), cR_split hx, List.take_left' hk, List.append_assoc]
/-- A list of one's own as an array (its place in the heap is q), with room behind it. -/
def OwnC (enc : α → List AV) (n b q : Nat) (j : AH) (T : TypeId) (v : AV) (l : List α) : Prop :=
  ∃ c pad, v = .ms (b + q) 0 l.length c n ∧ j[q]? = some (.row (cR enc l pad) T) ∧ c * n = l.length * n + pad.length ∧ (∀ a ∈ pad, a.isAgg = false)
theorem splice_eq {cs xs : List AV} {o : Nat} (h : o + xs.length ≤ cs.length) : splice cs o xs = cs.take o ++ xs ++ cs.drop (o + xs.length) := by
  rcases xs with _ | ⟨x, _ | ⟨y, xs⟩⟩
  · rfl
  · rw [splice_one, List.set_eq_take_append_cons_drop, if_pos (by simp at h; omega)]; simp
  · rfl
theorem cR_snoc (hn : ∀ x, (enc x).length = n) {l l2 : List α} {pad : List AV} (h : l2.length * n ≤ pad.length) : splice (cR enc l pad) (0 + l.length * n) (l2.flatMap enc) = cR enc (l ++ l2) (pad.drop (l2.length * n)) := by
  have hk : (l.flatMap enc).length = l.length * n := flatMap_len hn l
  rw [splice_eq (by rw [cR_len hn, flatMap_len hn]; omega), Nat.zero_add, flatMap_len hn]
  rw [cR, List.take_left' hk, List.drop_append, hk, List.drop_eq_nil_of_le (by omega), Nat.add_sub_cancel_left, cR, List.flatMap_append]
  simp
theorem OwnC.get {b q : Nat} {j : AH} {T : TypeId} {v : AV} {l : List α} (h : OwnC enc n b q j T v l) {i : Nat} {k : AH} (hk : b = k.length) : ∃ c pad, v = .ms (b + q) 0 l.length c n ∧ (k ++ j)[b + q]? = some (.row (cR enc l pad) T) := by
  obtain ⟨c, pad, h1, h2, _⟩ := h
  exact ⟨c, pad, h1, by rw [hk, hget_add]; exact h2⟩
theorem OwnC.more {b q : Nat} {j : AH} {T : TypeId} {v : AV} {l : List α} (h : OwnC enc n b q j T v l) (k : AH) : OwnC enc n b q (j ++ k) T v l := by
  obtain ⟨c, pad, h1, h2, h3⟩ := h
  exact ⟨c, pad, h1, by rw [List.getElem?_append_left (List.getElem?_eq_some_iff.1 h2).1]; exact h2, h3⟩
/-- **An append to a list of one's own.** -/
theorem aApM_C {l l2 : List α} {v x : AV} {ys : List AV} {h j : AH} {q : Nat} {T : TypeId} {by_ : Nat} {z : List AV} {Q : AV → AH → Prop} (hn : ∀ x, (enc x).length = n) (h0 : 0 < n) (hv : (v = .sl [] .full ∧ l = []) ∨ OwnC enc n h.length q j T v l)
    (hs : SrcIs x (h ++ j) ys) (hx : RowsOK n ys) (hf : flat ys = l2.flatMap enc) (hl : ys.length = l2.length) (hne : l2 ≠ []) (h63 : l.length + l2.length ≤ 9223372036854775807) (hby : (l.length + l2.length) * by_ ≤ 140737488355328)
    (H : ∀ v' q' j', OwnC enc n h.length q' j' T v' (l ++ l2) → j.length ≤ j'.length → (∀ i, i < j.length → i ≠ q → j'[i]? = j[i]?) → (q' = q ∨ j.length ≤ q') → (∀ (i : Nat) (ob : AObj), j'[i]? = some ob → j[i]? = some ob ∨ ∃ cs, ob = AObj.row cs T) → Q v' (h ++ j')) : aApM (some (n, by_, z, T)) v x (h ++ j) Q := by
  refine ⟨ys, hs, hx, ?_⟩
  have hys : ys ≠ [] := fun e => by rw [e] at hl; exact hne (List.length_eq_zero_iff.1 hl.symm)
  have snoc : ∀ cs0 (i : Nat) (ob : AObj), (j ++ [.row cs0 T])[i]? = some ob → j[i]? = some ob ∨ ∃ cs, ob = .row cs T := fun cs0 i ob e => by
    rw [List.getElem?_append] at e
    split at e
    · exact .inl e
    · refine .inr ⟨cs0, ?_⟩
      cases hk : i - j.length with
      | zero => rw [hk] at e; simpa using e.symm
      | succ k => rw [hk] at e; simp at e
  rcases hv with ⟨rfl, rfl⟩ | ⟨c, pad, rfl, h2, h3, h4⟩
  · refine ⟨by rw [hl]; simpa using h63, by rw [hl]; simpa using hby, fun e => absurd e hys, fun _ c hc => ?_⟩
    rw [hf, List.append_assoc, hl]
    have := H (.ms (h ++ j).length 0 l2.length c n) j.length (j ++ [.row (l2.flatMap enc ++ List.replicate ((c - l2.length) * n) .top) T]) ⟨c, List.replicate ((c - l2.length) * n) .top, by simp, by simp [cR], by
      rw [List.length_replicate, List.nil_append, ← Nat.add_mul]; congr 1; omega, fun a ha => by rw [List.eq_of_mem_replicate ha]; rfl⟩ (by simp) (fun i hi _ => by rw [List.getElem?_append_left hi]) (.inr (Nat.le_refl _)) (snoc _)
    exact this
  · have hq := (List.getElem?_eq_some_iff.1 h2).1
    have hg : (h ++ j)[h.length + q]? = some (.row (cR enc l pad) T) := by rw [hget_add]; exact h2
    have hlc : l.length ≤ c := Nat.le_of_mul_le_mul_right (c := n) (by omega) h0
    rw [hl]
    refine ⟨rfl, h63, hby, hlc, ?_⟩
    rw [hg]
    refine ⟨by rw [cR_len hn]; omega, fun hle => ?_, fun hlt c' hc' => ?_⟩
    · have hle' := Nat.mul_le_mul_right n hle
      rw [Nat.add_mul] at hle'
      have := H (.ms (h.length + q) 0 (l.length + l2.length) c n) q (j.set q (.row (cR enc (l ++ l2) (pad.drop (l2.length * n))) T)) ⟨c, pad.drop (l2.length * n), by simp, by simp [hq], by
        rw [List.length_append, Nat.add_mul, List.length_drop]; omega, fun a ha => h4 a (List.mem_of_mem_drop ha)⟩ (by simp) (fun i _ hi => by rw [List.getElem?_set_ne (Ne.symm hi)]) (.inl rfl) (fun k ob e => by
        rw [List.getElem?_set] at e
        split at e
        · exact .inr ⟨_, (Option.some.inj (by simpa [hq] using e)).symm⟩
        · exact .inl e)
      rw [hset_add, hf, cR_snoc hn (by omega)]
      exact this
    · have hkl : (l.flatMap enc).length = l.length * n := flatMap_len hn l
      have := H (.ms (h ++ j).length 0 (l.length + l2.length) c' n) j.length (j ++ [.row (cR enc (l ++ l2) (List.replicate ((c' - (l.length + l2.length)) * n) .top)) T]) ⟨c', List.replicate ((c' - (l.length + l2.length)) * n) .top, by simp, by simp, by
        rw [List.length_append, List.length_replicate, ← Nat.add_mul]; congr 1; omega, fun a ha => by rw [List.eq_of_mem_replicate ha]; rfl⟩ (by simp) (fun i hi _ => by rw [List.getElem?_append_left hi]) (.inr (Nat.le_refl _)) (snoc _)
      rw [hf, List.drop_zero, cR, List.take_left' hkl]
      simpa [cR] using this
theorem rowsOf_cR (hn : ∀ x, (enc x).length = n) (h1 : n ≠ 1) : ∀ (l : List α) (pad : List AV), rowsOf n l.length (cR enc l pad) = l.map fun x => .agg (enc x)
  | [], _ => rfl
  | x :: l, pad => by
    rw [List.length_cons, rowsOf, if_neg h1, List.map_cons]
    have e : cR enc (x :: l) pad = enc x ++ cR enc l pad := by simp [cR]
    rw [e, List.take_left' (hn x), List.drop_left' (hn x), rowsOf_cR hn h1 l pad]
/-- What a list of one's own is from now on. -/
theorem fz_C (hn : ∀ x, (enc x).length = n) (h0 : 0 < n) (h1 : n ≠ 1) {i c : Nat} {l : List α} {pad : List AV} (hc : c * n = l.length * n + pad.length) (hp : ∀ a ∈ pad, a.isAgg = false) (he : ∀ x, ∀ a ∈ enc x, a.isAgg = false) :
    fzV i (cR enc l pad) (.ms i 0 l.length c n) = .sl (l.map fun x => .agg (enc x)) .free := by
  rw [fzV, if_pos, List.drop_zero, rowsOf_cR hn h1]
  refine ⟨rfl, ?_⟩
  have hlc : l.length ≤ c := Nat.le_of_mul_le_mul_right (c := n) (by omega) h0
  simp only [fzOK, Bool.and_eq_true, decide_eq_true_eq, bne_iff_ne, List.all_eq_true, Bool.not_eq_true', cR_len hn]
  refine ⟨⟨⟨by omega, hlc⟩, by omega⟩, fun a ha => ?_⟩
  rcases List.mem_append.1 ha with ha | ha
  · obtain ⟨x, _, hx⟩ := List.mem_flatMap.1 ha
    exact he x a hx
  · exact hp a ha
end
section
variable {P : Program} {Γ : Nat → Option (List AV)}
/-- **The end of a function whose result may hold an array of its own**, a list from now on. -/
theorem ACalls.endC {f : FuncId} {args : List AV} {h : AH} {R : AV → Prop} (H : ACalls P Γ f args h fun v h' => (∃ l, h' = h ++ l) ∧ ((RB h.length (loose v) ∧ R (loose v)) ∨ ∃ q cs T, h'[h.length + q]? = some (.row cs T) ∧ RB h.length (loose (fzV (h.length + q) cs v)) ∧ R (loose (fzV (h.length + q) cs v)))) :
    ACalls P Γ f args h fun v h' => h' = h ∧ R v := by
  refine ACalls.dropL ⟨H.1, fun G w vs hI hv => (H.2 G w vs hI hv).mono fun e w' hr => ?_⟩
  obtain ⟨v, G', av, h', k1, k2, k3, k4, ⟨l, rfl⟩, k5 | ⟨q, cs, T, e1, k5⟩⟩ := hr
  · exact ⟨v, G', av, _, k1, k2, k3, k4, ⟨l, rfl⟩, k5⟩
  · obtain ⟨b, vals, q1, q2, q3⟩ := k3.freeze e1 (Froze.set e1)
    exact ⟨v, _, _, _, k1, k2.trans q1, q2, q3 _ _ k4, ⟨l.set q .frozen, hset_add h l q .frozen⟩, k5⟩
variable {h : AH} {N : Nat} {σ : Tm} {Q : Exit → Tm → AH → Prop}
/-- Code that runs off its end, what it leaves being known. -/
def onlyN (kp : List Nat) (G : Tm → AH → Prop) : Exit → Tm → AH → Prop
  | .normal, σ, h => G (keep kp σ) h
  | _, _, _ => False
@[go_sem] theorem onlyN_normal (kp : List Nat) (G : Tm → AH → Prop) : onlyN kp G .normal σ h = G (keep kp σ) h := (rfl)
theorem awp_only {c d : Code} (kp : List Nat) (G : Tm → AH → Prop) (H : AWP P Γ N c (onlyN kp G) σ h) (T : ∀ σ h, G σ h → AWP P Γ N d Q σ h) : AWP P Γ N (.seq c d) Q σ h :=
  awp_seq (H.mono fun e σ h he => by
    cases e with
    | normal => exact AWP.keep kp (T _ _ he)
    | _ => exact he.elim)
/-- The end of a round, its code not reckoned at once. -/
def roundV (kp : List Nat) (st : Tm) (I : AH → Prop) (Q : Exit → Tm → AH → Prop) : Exit → Tm → AH → Prop
  | .normal, σ, h => I h ∧ keep kp σ = st
  | e, σ, h => Q e σ h
@[go_sem] theorem roundV_normal {kp : List Nat} {st : Tm} {I : AH → Prop} : roundV kp st I Q .normal σ h = (I h ∧ keep kp σ = st) := (rfl)
@[go_sem] theorem roundV_ret {kp : List Nat} {st : Tm} {I : AH → Prop} : roundV kp st I Q .ret σ h = Q .ret σ h := (rfl)
@[go_sem] theorem roundV_exit {kp : List Nat} {st : Tm} {I : AH → Prop} (i : Nat) : roundV kp st I Q (.exit i) σ h = Q (.exit i) σ h := (rfl)
/-- A loop whose rounds are no code that is reckoned at once. -/
theorem awp_loopV {α : Type} {c : Code} (xs : List α) (L : List Nat) (st : List α → Tm) (inv : List α → List α → AH → Prop) (h1 : keep L σ = st []) (h3 : inv [] xs h)
    (H1 : ∀ don x r h, xs = don ++ x :: r → inv don (x :: r) h → AWP P Γ N c (roundV L (st (don ++ [x])) (inv (don ++ [x]) r) Q) (st don) h)
    (H0 : ∀ h, inv xs [] h → AWP P Γ N c (roundZ Q) (st xs) h) : AWP P Γ N (.loop c) Q σ h := by
  refine awp_loop (fun n σ h => ∃ don rest, n = rest.length ∧ xs = don ++ rest ∧ inv don rest h ∧ keep L σ = st don) ⟨[], xs, rfl, rfl, h3, h1⟩ fun n σ h hx => ?_
  obtain ⟨don, rest, rfl, hxs, hi, hs⟩ := hx
  refine AWP.keep L ?_
  rw [hs]
  cases rest with
  | nil =>
    rw [List.append_nil] at hxs
    subst hxs
    refine (H0 h hi).mono fun e σ h he => ?_
    cases e with
    | normal => exact he.elim
    | _ => exact he
  | cons x r =>
    refine (H1 don x r h hxs hi).mono fun e σ h he => ?_
    cases e with
    | normal => exact ⟨r.length, by simp, don ++ [x], r, rfl, by simp [hxs], he.1, he.2⟩
    | _ => exact he
theorem aOps_inv {ops : Array Oper} {K : Tm → AH → Prop} (dep : List (List Nat)) (Iv : List Nat → Tm → AH → Prop) (hg : (ops.toList.all fun o => o.guard.isNone) = true)
    (step : ∀ (i : Nat) (o : Oper), ops[i]? = some o → ∀ (done : List Nat) (σ : Tm) (h : AH), Iv done σ h → (∀ d ∈ dep.getD i [], d ∈ done) → (∀ d ∈ done, ∀ e ∈ dep.getD d [], e ∈ done) → i ∉ done → ∀ C : AV → Tm → AH → Prop, (∀ v h', Iv (i :: done) (put o.dst v σ) h' → C v σ h') → aOper P Γ o C σ h)
    (fin : ∀ (done : List Nat) (σ : Tm) (h : AH), (∀ i < ops.size, i ∈ done) → Iv done σ h → K σ h) :
    ∀ (l done : List Nat) (σ : Tm) (h : AH), okOrd ops.size dep done l = true → (∀ d ∈ done, ∀ e ∈ dep.getD d [], e ∈ done) → Iv done σ h → aOps P Γ ops.toList K (l.filterMap (ops[·]?)) σ h
  | [], done, σ, h, ho, _, h1 => by
    rw [okOrd, List.all_eq_true] at ho
    exact fin done σ h (fun i hi => by simpa using ho i (List.mem_range.2 hi)) h1
  | i :: r, done, σ, h, ho, hcl, h1 => by
    simp only [okOrd, Bool.and_eq_true, List.all_eq_true, Bool.not_eq_true'] at ho
    obtain ⟨⟨⟨k1, k2⟩, k3⟩, k4⟩ := ho
    have hi : i < ops.size := by simpa [Nat.blt_eq] using k1
    have hnd : i ∉ done := by simpa using k3
    have eo : ops[i]? = some ops[i] := by simp [hi]
    rw [List.filterMap_cons, eo]
    simp only
    have hgi : (ops[i]).guard = none := by
      have := List.all_eq_true.1 hg ops[i] (by simp)
      simpa using this
    rw [aOps, hgi]
    simp only
    refine step i ops[i] eo done σ h h1 (fun d hd => by simpa using k2 d hd) hcl hnd _ fun v h' hv => ?_
    exact aOps_inv dep Iv hg step fin r (i :: done) _ h' k4 (fun d hd e he => by
      rcases List.mem_cons.1 hd with rfl | hd
      · exact List.mem_cons_of_mem _ (by simpa using k2 e he)
      · exact List.mem_cons_of_mem _ (hcl d hd e he)) hv
/-- **A region that draws its order**, reckoned operation by operation, what holds meanwhile being named. -/
theorem awp_any_inv {id : Nat} {ops : Array Oper} (dep : List (List Nat)) (Iv : List Nat → Tm → AH → Prop) (hm : P.follows .mixedOrders = true) (hd : dstOK N ops = true) (hg : (ops.toList.all fun o => o.guard.isNone) = true)
    (ho : ((ordersOf ops ops.size (Array.replicate ops.size false)).all fun l => okOrd ops.size dep [] l) = true) (h0 : Iv [] σ h)
    (step : ∀ (i : Nat) (o : Oper), ops[i]? = some o → ∀ (done : List Nat) (σ : Tm) (h : AH), Iv done σ h → (∀ d ∈ dep.getD i [], d ∈ done) → (∀ d ∈ done, ∀ e ∈ dep.getD d [], e ∈ done) → i ∉ done → ∀ C : AV → Tm → AH → Prop, (∀ v h', Iv (i :: done) (put o.dst v σ) h' → C v σ h') → aOper P Γ o C σ h)
    (fin : ∀ (done : List Nat) (σ : Tm) (h : AH), (∀ i < ops.size, i ∈ done) → Iv done σ h → Q .normal σ h) :
    AWP P Γ N (.region id ops true) Q σ h :=
  awp_any hm hd fun l hl => aOps_inv dep Iv hg step fin l [] σ h (List.all_eq_true.1 ho l hl) (fun _ h => by simp at h) h0
/-- A range over a function, the heap seen place by place. -/
theorem awp_rangeFuncI {g : Operand} {ps : Array Tmp} {assign body : Code} {gf : FuncId} {first caps : List AV} (hg : ev Γ σ g = .func gf first caps)
    (H : ∀ li : LI, li = ⟨N, σ, ps, assign, body, none⟩ → ACalls P Γ gf (first ++ [.yield h.length] ++ caps) (h ++ [.loop .ready none li]) fun _ h' => ∃ st pe, h'[h.length]? = some (.loop st pe li) ∧ (∀ (i : Nat) (ob : AObj), i ≠ h.length → h'[i]? = some ob → h[i]? = some ob ∨ ∀ st pe li, ob ≠ .loop st pe li) ∧ st ≠ .busy ∧ afterLoop P Γ N Q σ (h'.set h.length .dead) pe) :
    AWP P Γ N (.rangeFunc g ps assign body) Q σ h := awp_rangeFuncKL hg fun li e => (H li e).mono fun _ h' ⟨st, pe, hL, hnl, hst, ha⟩ => by
  have hlt := (List.getElem?_eq_some_iff.1 hL).1
  have hg' := (List.getElem?_eq_some_iff.1 hL).2
  have hset : h'.set h.length .dead = h'.take h.length ++ .dead :: h'.drop (h.length + 1) := by rw [List.set_eq_take_append_cons_drop, if_pos hlt]
  refine ⟨h'.take h.length, st, pe, h'.drop (h.length + 1), ?_, by rw [List.length_take]; omega, fun i ob e => ?_, hst, by rw [← hset]; exact ha⟩
  · have := List.take_append_drop h.length h'
    rw [List.drop_eq_getElem_cons hlt, hg'] at this
    exact this.symm
  · rw [← hset, List.getElem?_set] at e
    by_cases hi : h.length = i
    · rw [if_pos hi, if_pos (hi ▸ hlt)] at e
      cases e
      exact .inr fun _ _ _ => by simp
    · rw [if_neg hi] at e
      exact hnl i ob (Ne.symm hi) e
end
end Go.Abs
