/- Texts joined: CmpF. No conditions. -/
import Derived.Test.YtelehpccfaedjaaMrBB
/- The program's inner: what it yields. No conditions. -/
set_option linter.unusedSimpArgs false
set_option linter.unusedVariables false
namespace Go.Proofs.Ytelehpccfaedjaa
open Go Go.Proofs Go.Abs

def innerV (now old : List (List Int)) : AV := .func 95 [] [.eptr [.sl (encII now) .free], .eptr [.sl (encII old) .free]]
set_option maxRecDepth 100000 in
theorem inner_calls (Γ : Nat → Option (List AV)) (now old : List (List Int)) (h : AH) :
    ACalls Try.prog Γ 70 [.sl (encII now) .free, .sl (encII old) .free] h fun v h' => h' = h ∧ v = innerV now old := by
  rw [innerV]
  refine ACalls.dropL ?_
  refine ACalls.freeze ?_
  refine ACalls.freeze ?_
  refine acalls_code (rs := [.tmp 4]) Try.func70 rfl rfl rfl rfl Ty.mixed (by kernel_rfl) ?_
  simp (disch := omega) only [go_sem, seval]
  have e1 : ∀ a b : AObj, (h ++ [a, b])[h.length]? = some a := fun a b => by simp
  have e2 : ∀ a b : AObj, ((h ++ [a, b]).set h.length .frozen)[h.length + 1]? = some b := fun a b => by rw [List.getElem?_set_ne (by omega)]; simp
  have e4 : ∀ a b : AObj, ∃ l, ((h ++ [a, b]).set h.length .frozen).set (h.length + 1) .frozen = h ++ l := fun a b => ⟨[.frozen, .frozen], by
    have a1 : (h ++ [a, b]).set (h.length + 0) .frozen = h ++ [.frozen, b] := hset_add ..
    have a2 : (h ++ [.frozen, b]).set (h.length + 1) .frozen = h ++ [.frozen, .frozen] := hset_add ..
    rw [Nat.add_zero] at a1
    rw [a1, a2]⟩
  refine ⟨h.length, _, _, _, e1 _ _, Froze.set (e1 _ _), h.length + 1, _, _, _, e2 _ _, Froze.set (e2 _ _), e4 _ _, ?_, ?_⟩
  · simp only [fzV, fzL, if_true, List.drop_zero]
    rw [if_neg (by omega)]
    simp only [fzV, fzL, if_true, List.drop_zero, loose, looseL, loose_II]
    exact .func (RBs.nil _) (RBs.cons (.eptr (RBs.cons (of_eq_true (rb_II _ _)) (RBs.nil _))) (RBs.cons (.eptr (RBs.cons (of_eq_true (rb_II _ _)) (RBs.nil _))) (RBs.nil _)))
  · simp only [fzV, fzL, if_true, List.drop_zero]
    rw [if_neg (by omega)]
    simp only [fzV, fzL, if_true, List.drop_zero, loose, looseL, loose_II]

/-- Who consumes what inner yields. -/
structure ConsI (Γ : Nat → Option (List AV)) (L b : Nat) (now old : List (List Int)) (Inv : List (List Int) → AH → Prop) (Stp : AH → Prop) : Prop where
  inv : ∀ don h h', Inv don h → AppNL h h' → Inv don h'
  yl : ∀ don x r h, now = don ++ x :: r → b ≤ h.length → Inv don h → AYield Try.prog Γ L [.int .i64 don.length, .int .i64 (fidI (insF old x))] h fun v h' => Kept b h h' ∧ ((v = .bool true ∧ Inv (don ++ [x]) h') ∨ (v = .bool false ∧ Stp h'))
theorem NoLoop.prO (b : Nat) (who : List Int) : NoLoop (prO b who) := fun ob ho st pe li e => by
  simp only [Proofs.Ytelehpccfaedjaa.prO, List.mem_cons, List.not_mem_nil, or_false] at ho
  rcases ho with rfl | rfl <;> cases e
/-- The end of a round, its code not reckoned at once. -/
def roundW (kp : List Nat) (st : Tm) (I : AH → Prop) (Q : Exit → Tm → AH → Prop) : Exit → Tm → AH → Prop
  | .normal, σ, h => I h ∧ keep kp σ = st
  | e, σ, h => Q e σ h
section
variable {kp : List Nat} {st : Tm} {I : AH → Prop} {Q : Exit → Tm → AH → Prop} {σ : Tm} {h : AH}
@[go_sem] theorem roundW_normal : roundW kp st I Q .normal σ h = (I h ∧ keep kp σ = st) := (rfl)
@[go_sem] theorem roundW_ret : roundW kp st I Q .ret σ h = Q .ret σ h := (rfl)
@[go_sem] theorem roundW_exit (i : Nat) : roundW kp st I Q (.exit i) σ h = Q (.exit i) σ h := (rfl)
end
/-- A loop whose rounds are no code that is reckoned at once. -/
theorem awp_loopW {P : Program} {Γ : Nat → Option (List AV)} {N : Nat} {σ : Tm} {h : AH} {Q : Exit → Tm → AH → Prop} {α : Type} {c : Code} (xs : List α) (L : List Nat) (st : List α → Tm) (inv : List α → List α → AH → Prop) (h1 : keep L σ = st []) (h3 : inv [] xs h)
    (H1 : ∀ don x r h, xs = don ++ x :: r → inv don (x :: r) h → AWP P Γ N c (roundW L (st (don ++ [x])) (inv (don ++ [x]) r) Q) (st don) h)
    (H0 : ∀ h, inv xs [] h → AWP P Γ N c (roundZ Q) (st xs) h) : AWP P Γ N (.loop c) Q σ h := by
  refine awp_loop (fun n σ h => ∃ don rest, n = rest.length ∧ xs = don ++ rest ∧ inv don rest h ∧ keep L σ = st don) ⟨[], xs, rfl, rfl, h3, h1⟩ fun n σ h hx => ?_
  obtain ⟨don, rest, rfl, hxs, hi, hs⟩ := hx
  refine AWP.keep L ?_
  rw [hs]
  cases rest with
  | nil =>
    rw [List.append_nil] at hxs
    subst hxs
    refine (H0 h hi).mono fun e σ h he => ?_
    cases e with
    | normal => exact he.elim
    | _ => exact he
  | cons x r =>
    refine (H1 don x r h hxs hi).mono fun e σ h he => ?_
    cases e with
    | normal => exact ⟨r.length, by simp, don ++ [x], r, rfl, by simp [hxs], he.1, he.2⟩
    | _ => exact he
def gotN (kp : List Nat) (G : Tm → AH → Prop) : Exit → Tm → AH → Prop
  | .normal, σ, h => G (keep kp σ) h
  | _, _, _ => False
section
variable {kp : List Nat} {G : Tm → AH → Prop} {σ : Tm} {h : AH}
@[go_sem] theorem gotN_normal : gotN kp G .normal σ h = G (keep kp σ) h := (rfl)
end
theorem awp_got {P : Program} {Γ : Nat → Option (List AV)} {N : Nat} {σ : Tm} {h : AH} {Q : Exit → Tm → AH → Prop} {c d : Code} (kp : List Nat) (G : Tm → AH → Prop) (H : AWP P Γ N c (gotN kp G) σ h) (T : ∀ σ h, G σ h → AWP P Γ N d Q σ h) : AWP P Γ N (.seq c d) Q σ h :=
  awp_seq (H.mono fun e σ h he => by
    cases e with
    | normal => exact AWP.keep kp (T _ _ he)
    | _ => exact he.elim)
set_option maxHeartbeats 8000000 in
set_option maxRecDepth 100000 in
theorem inner1_calls (Γ : Nat → Option (List AV)) (now old : List (List Int)) (L b : Nat) (Inv : List (List Int) → AH → Prop) (Stp : AH → Prop) (C : ConsI Γ L b now old Inv Stp) (hn : now.length ≤ 1000000) (ho : old.length ≤ 1000000) (bn : ∀ s ∈ now, s.length ≤ 1000000) (bo : ∀ s ∈ old, s.length ≤ 1000000) (h : AH) (hb : b ≤ h.length) (hI : Inv [] h) :
    ACalls Try.prog Γ 95 [.yield L, .eptr [.sl (encII now) .free], .eptr [.sl (encII old) .free]] h fun _ h' => Kept b h h' ∧ (Inv now h' ∨ Stp h') := by
  refine acalls_code (rs := []) Try.func95 rfl rfl rfl rfl Ty.mixed (by kernel_rfl) ?_
  simp (disch := omega) only [go_sem, seval]
  refine awp_loopW now [0, 1, 2, 6, 7, 8] (fun don => [(0, .yield L), (1, .eptr [.sl (encII now) .free]), (2, .eptr [.sl (encII old) .free]), (6, .sl (encII now) .free), (7, .int .i64 now.length), (8, .int .i64 don.length)])
    (fun don _ hx => Kept b h hx ∧ Inv don hx) ?_ ⟨.refl _ _, hI⟩ ?_ ?_
  · simp (disch := omega) only [go_sem, seval, encII_len]
  · rintro don x r hx hd ⟨k1, k2⟩
    have hlen : now.length = don.length + 1 + r.length := by rw [hd]; simp; omega
    have e1 : (encII now)[don.length]? = some (.sl (encI x) .free) := by rw [hd]; exact encII_get don r x
    have hxl := bn x (by rw [hd]; simp)
    have kl := k1.len
    refine awp_seq (aCode_ok Ty.mixed _ _ _ _ (by kernel_rfl) ?_)
    simp (disch := omega) only [go_sem, seval]
    refine awp_seq (aCode_ok Ty.mixed _ _ _ _ (by kernel_rfl) ?_)
    simp (disch := omega) only [go_sem, seval]
    refine aIf.pos (by omega) ?_
    simp (disch := omega) only [go_sem, seval]
    refine awp_seq (awp_block (awp_seq (aCode_ok Ty.mixed _ _ _ _ (by kernel_rfl) ?_)))
    simp (disch := omega) only [go_sem, seval, e1]
    refine awp_got [0, 1, 2, 6, 7, 8, 20] (fun σ hy => ∃ v, σ = [(0, .yield L), (1, .eptr [.sl (encII now) .free]), (2, .eptr [.sl (encII old) .free]), (6, .sl (encII now) .free), (7, .int .i64 now.length), (8, .int .i64 don.length), (20, .bool (!v))] ∧ Kept b h hy ∧ ((v = true ∧ Inv (don ++ [x]) hy) ∨ (v = false ∧ Stp hy))) (awp_any_of [[0, 1, 2, 3, 4, 5, 6, 7], [0, 1, 3, 2, 4, 5, 6, 7], [0, 1, 3, 4, 2, 5, 6, 7], [0, 2, 1, 3, 4, 5, 6, 7], [0, 2, 3, 1, 4, 5, 6, 7], [0, 2, 3, 4, 1, 5, 6, 7], [0, 2, 3, 4, 5, 1, 6, 7], [0, 3, 1, 2, 4, 5, 6, 7], [0, 3, 1, 4, 2, 5, 6, 7], [0, 3, 2, 1, 4, 5, 6, 7], [0, 3, 2, 4, 1, 5, 6, 7], [0, 3, 2, 4, 5, 1, 6, 7], [0, 3, 4, 1, 2, 5, 6, 7], [0, 3, 4, 2, 1, 5, 6, 7], [0, 3, 4, 2, 5, 1, 6, 7], [1, 0, 2, 3, 4, 5, 6, 7], [1, 0, 3, 2, 4, 5, 6, 7], [1, 0, 3, 4, 2, 5, 6, 7], [1, 2, 0, 3, 4, 5, 6, 7], [1, 2, 3, 0, 4, 5, 6, 7], [1, 2, 3, 4, 0, 5, 6, 7], [1, 2, 3, 4, 5, 0, 6, 7], [1, 3, 0, 2, 4, 5, 6, 7], [1, 3, 0, 4, 2, 5, 6, 7], [1, 3, 2, 0, 4, 5, 6, 7], [1, 3, 2, 4, 0, 5, 6, 7], [1, 3, 2, 4, 5, 0, 6, 7], [1, 3, 4, 0, 2, 5, 6, 7], [1, 3, 4, 2, 0, 5, 6, 7], [1, 3, 4, 2, 5, 0, 6, 7], [2, 0, 1, 3, 4, 5, 6, 7], [2, 0, 3, 1, 4, 5, 6, 7], [2, 0, 3, 4, 1, 5, 6, 7], [2, 0, 3, 4, 5, 1, 6, 7], [2, 1, 0, 3, 4, 5, 6, 7], [2, 1, 3, 0, 4, 5, 6, 7], [2, 1, 3, 4, 0, 5, 6, 7], [2, 1, 3, 4, 5, 0, 6, 7], [2, 3, 0, 1, 4, 5, 6, 7], [2, 3, 0, 4, 1, 5, 6, 7], [2, 3, 0, 4, 5, 1, 6, 7], [2, 3, 1, 0, 4, 5, 6, 7], [2, 3, 1, 4, 0, 5, 6, 7], [2, 3, 1, 4, 5, 0, 6, 7], [2, 3, 4, 0, 1, 5, 6, 7], [2, 3, 4, 0, 5, 1, 6, 7], [2, 3, 4, 1, 0, 5, 6, 7], [2, 3, 4, 1, 5, 0, 6, 7], [2, 3, 4, 5, 0, 1, 6, 7], [2, 3, 4, 5, 1, 0, 6, 7], [3, 0, 1, 2, 4, 5, 6, 7], [3, 0, 1, 4, 2, 5, 6, 7], [3, 0, 2, 1, 4, 5, 6, 7], [3, 0, 2, 4, 1, 5, 6, 7], [3, 0, 2, 4, 5, 1, 6, 7], [3, 0, 4, 1, 2, 5, 6, 7], [3, 0, 4, 2, 1, 5, 6, 7], [3, 0, 4, 2, 5, 1, 6, 7], [3, 1, 0, 2, 4, 5, 6, 7], [3, 1, 0, 4, 2, 5, 6, 7], [3, 1, 2, 0, 4, 5, 6, 7], [3, 1, 2, 4, 0, 5, 6, 7], [3, 1, 2, 4, 5, 0, 6, 7], [3, 1, 4, 0, 2, 5, 6, 7], [3, 1, 4, 2, 0, 5, 6, 7], [3, 1, 4, 2, 5, 0, 6, 7], [3, 2, 0, 1, 4, 5, 6, 7], [3, 2, 0, 4, 1, 5, 6, 7], [3, 2, 0, 4, 5, 1, 6, 7], [3, 2, 1, 0, 4, 5, 6, 7], [3, 2, 1, 4, 0, 5, 6, 7], [3, 2, 1, 4, 5, 0, 6, 7], [3, 2, 4, 0, 1, 5, 6, 7], [3, 2, 4, 0, 5, 1, 6, 7], [3, 2, 4, 1, 0, 5, 6, 7], [3, 2, 4, 1, 5, 0, 6, 7], [3, 2, 4, 5, 0, 1, 6, 7], [3, 2, 4, 5, 1, 0, 6, 7], [3, 4, 0, 1, 2, 5, 6, 7], [3, 4, 0, 2, 1, 5, 6, 7], [3, 4, 0, 2, 5, 1, 6, 7], [3, 4, 1, 0, 2, 5, 6, 7], [3, 4, 1, 2, 0, 5, 6, 7], [3, 4, 1, 2, 5, 0, 6, 7], [3, 4, 2, 0, 1, 5, 6, 7], [3, 4, 2, 0, 5, 1, 6, 7], [3, 4, 2, 1, 0, 5, 6, 7], [3, 4, 2, 1, 5, 0, 6, 7], [3, 4, 2, 5, 0, 1, 6, 7], [3, 4, 2, 5, 1, 0, 6, 7]] (by kernel_rfl) Ty.mixed (by kernel_rfl) ?_) ?_
    · have C1 := part_calls Γ x hx (by omega)
      have C2 := firstS_calls Γ old (fun s => prtF s x) 105 [] [.ptr (some (hx.length + 1, 0))] (hx ++ prO hx.length x) (by omega) fun s hs => isPart_calls Γ s x (hx.length + 1) hx.length (hx ++ prO hx.length x) (by have := bo s hs; omega) (by simp [prO]) (by simp [prO])
      rw [fidx_ins] at C2
      have hK : Kept b h (hx ++ prO hx.length x) := k1.trans (.app b hx (NoLoop.prO _ _))
      have C3 := C.yl don x r (hx ++ prO hx.length x) hd (by simp; omega) (C.inv _ _ _ k2 ⟨_, NoLoop.prO _ _, rfl⟩)
      repeat' refine List.forall_mem_cons.2 ⟨?_, ?_⟩
      all_goals first
        | exact fun _ h => absurd h List.not_mem_nil
        | (simp only [List.filterMap_cons, List.filterMap_nil, List.getElem?_toArray, List.getElem?_cons_zero, List.getElem?_cons_succ]
           simp (disch := omega) only [go_sem, seval]
           refine ACalls.detH C1 ?_
           simp (disch := omega) only [go_sem, seval, prV]
           refine ACalls.det C2 ?_
           simp (disch := omega) only [go_sem, seval]
           refine C3.mono ?_
           rintro v hy ⟨q1, q2⟩
           rcases q2 with ⟨rfl, q2⟩ | ⟨rfl, q2⟩
           · simp (disch := omega) only [go_sem, seval]
             exact ⟨true, rfl, hK.trans q1, .inl ⟨rfl, q2⟩⟩
           · simp (disch := omega) only [go_sem, seval]
             exact ⟨false, rfl, hK.trans q1, .inr ⟨rfl, q2⟩⟩)
    · rintro _ hy ⟨v, rfl, q1, q2⟩
      refine aCode_ok Ty.mixed _ _ _ _ (by kernel_rfl) ?_
      simp (disch := omega) only [go_sem, seval]
      rcases q2 with ⟨rfl, q2⟩ | ⟨rfl, q2⟩
      · simp (disch := omega) only [go_sem, seval]
        refine aCode_ok Ty.mixed _ _ _ _ (by kernel_rfl) ?_
        simp (disch := omega) only [go_sem, seval, List.length_append]
        exact ⟨q1, q2⟩
      · simp (disch := omega) only [go_sem, seval]
        exact ⟨q1, .inr q2⟩
  · rintro hx ⟨k1, k2⟩
    refine awp_seq (aCode_ok Ty.mixed _ _ _ _ (by kernel_rfl) ?_)
    simp (disch := omega) only [go_sem, seval]
    refine awp_seq (aCode_ok Ty.mixed _ _ _ _ (by kernel_rfl) ?_)
    simp (disch := omega) only [go_sem, seval]
    exact ⟨k1, .inl k2⟩
end Go.Proofs.Ytelehpccfaedjaa
