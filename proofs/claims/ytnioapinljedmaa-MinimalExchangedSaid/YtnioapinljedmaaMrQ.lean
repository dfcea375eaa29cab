/- Texts joined: MinR, MinS. No conditions. -/
import Derived.Test.YtnioapinljedmaaMrO
/- The reference's small functions on lists of sets. No conditions. -/
set_option linter.unusedSimpArgs false
set_option linter.unusedVariables false
namespace Go.Proofs.Ytnioapinljedmaa
open Go Go.Proofs Go.Abs

set_option maxRecDepth 100000 in
theorem some_calls (Γ : Nat → Option (List AV)) (l : List (List Int)) (s : List Int) (h : AH) (hl : l.length ≤ 9223372036854775807) (hb : ∀ a ∈ l, a.length ≤ 1000000) (hs : s.length ≤ 1000000) :
    ACalls Try.prog Γ 43 [.sl (encII l) .free, .sl (encI s) .free] h fun v h' => h' = h ∧ v = .bool (someF l s) := by
  refine ACalls.drop ?_
  refine acalls_code (rs := [.tmp 4]) Try.func43 rfl rfl rfl rfl Ty.mixed (by kernel_rfl) ?_
  simp (disch := omega) only [go_sem, seval]
  refine awp_loopL (β := Unit) l [0, 1, 5] (fun don _ => [(0, .sl (encII l) .free), (1, .sl (encI s) .free), (5, .int .i64 don.length)]) (fun _ => h) (fun don rest _ => someF l s = someF rest s) () ?_ rfl rfl Ty.mixed (by kernel_rfl) ?_ ?_
  · simp (disch := omega) only [go_sem, seval]
  · rintro don x r _ rfl hx
    have hl3 := len_mid hl
    have e1 := encII_get don r x
    simp (disch := omega) only [go_sem, seval, encII_len, List.length_append, List.length_cons]
    refine aIf.pos (by omega) ?_
    simp (disch := omega) only [go_sem, seval, encII_len, List.length_append, List.length_cons, e1]
    have c1 := fun h => inside_calls Γ x s h (hb x (by simp)) hs
    generalize hc : decide (∀ y ∈ x, y ∈ s) = b at c1
    refine ACalls.det (c1 _) ?_
    simp (disch := omega) only [go_sem, seval]
    cases b with
    | true => simp (disch := omega) only [go_sem, seval]; rw [hx, someF, List.any_cons, hc, Bool.true_or]
    | false =>
      simp (disch := omega) only [go_sem, seval]
      refine roundL_next () ?_ ?_ rfl
      · rw [hx]; simp only [someF, List.any_cons, hc, Bool.false_or]
      · simp (disch := omega) only [go_sem, seval, List.length_append]
  · intro _ hx
    simp (disch := omega) only [go_sem, seval, encII_len]
    refine AWP.keep [] (aCode_ok Ty.mixed _ _ _ _ (by kernel_rfl) ?_)
    simp (disch := omega) only [go_sem, seval]
    rw [hx]; rfl
set_option maxRecDepth 100000 in
theorem incr_calls (Γ : Nat → Option (List AV)) (l : List Int) (h : AH) (hl : l.length ≤ 9223372036854775806) :
    ACalls Try.prog Γ 44 [.sl (encI l) .free] h fun v h' => h' = h ∧ v = .bool (incF l) := by
  refine ACalls.drop ?_
  refine acalls_code (rs := [.tmp 2]) Try.func44 rfl rfl rfl rfl Ty.mixed (by kernel_rfl) ?_
  simp (disch := omega) only [go_sem, seval]
  cases l with
  | nil =>
    refine awp_loopL (β := Unit) ([] : List Int) [0, 3] (fun don _ => [(0, .sl (encI []) .free), (3, .int .i64 1)]) (fun _ => h) (fun _ _ _ => True) () ?_ rfl trivial Ty.mixed (by kernel_rfl) ?_ ?_
    · simp (disch := omega) only [go_sem, seval]
    · rintro don x r _ he; simp at he
    · intro _ _
      simp (disch := omega) only [go_sem, seval, encI_len, List.length_nil]
      refine AWP.keep [] (aCode_ok Ty.mixed _ _ _ _ (by kernel_rfl) ?_)
      simp (disch := omega) only [go_sem, seval]
      rfl
  | cons y r0 =>
    have hl0 : r0.length + 1 ≤ 9223372036854775806 := hl
    refine awp_loopL (β := Int) r0 [0, 3] (fun don _ => [(0, .sl (encI (y :: r0)) .free), (3, .int .i64 (don.length + 1))]) (fun _ => h) (fun don rest p => (y :: don)[don.length]? = some p ∧ incF (y :: r0) = incF (p :: rest)) y ?_ rfl ⟨by simp, rfl⟩ Ty.mixed (by kernel_rfl) ?_ ?_
    · simp (disch := omega) only [go_sem, seval]
    · rintro don x r p rfl ⟨hp, hx⟩
      have hl3 := len_mid (k := 9223372036854775805) (by omega : (don ++ x :: r).length ≤ 9223372036854775805)
      have e1 : (encI (y :: (don ++ x :: r)))[don.length + 1]? = some (.int .i64 x) := by simp [encI]
      have e2 : (encI (y :: (don ++ x :: r)))[don.length]? = some (.int .i64 p) := by
        rw [← List.cons_append, encI_app, List.getElem?_append_left (by simp [encI]), encI, List.getElem?_map, hp]; rfl
      simp (disch := omega) only [go_sem, seval, encI_len, List.length_append, List.length_cons]
      refine aIf.pos (by omega) ?_
      simp (disch := omega) only [go_sem, seval, encI_len, List.length_append, List.length_cons, e1, e2]
      refine ⟨by omega, ?_⟩
      rw [show ((don.length : Int) + 1).toNat = don.length + 1 from by omega]
      simp (disch := omega) only [go_sem, seval, encI_len, List.length_append, List.length_cons, e1, e2]
      rw [incF] at hx
      refine aIf.intro (fun hlt => ?_) (fun hlt => ?_) <;> simp (disch := omega) only [go_sem, seval]
      · rw [hx, decide_eq_false (by omega)]; rfl
      · refine roundL_next x ⟨by simp, ?_⟩ ?_ rfl
        · rw [hx, decide_eq_true (by omega)]; rfl
        · simp (disch := omega) only [go_sem, seval, List.length_append]
    · rintro p ⟨_, hx⟩
      simp (disch := omega) only [go_sem, seval, encI_len, List.length_cons]
      refine AWP.keep [] (aCode_ok Ty.mixed _ _ _ _ (by kernel_rfl) ?_)
      simp (disch := omega) only [go_sem, seval]
      rw [hx]; rfl
def sameF (a b : List (List Int)) : Bool := decide (a = b)
set_option maxRecDepth 100000 in
theorem same_calls (Γ : Nat → Option (List AV)) (a b : List (List Int)) (h : AH) (hl : a.length ≤ 9223372036854775807) (ha : ∀ s ∈ a, s.length ≤ 9223372036854775807) :
    ACalls Try.prog Γ 36 [.sl (encII a) .free, .sl (encII b) .free] h fun v h' => h' = h ∧ v = .bool (decide (a = b)) := by
  refine ACalls.drop ?_
  refine acalls_code (rs := [.tmp 4]) Try.func36 rfl rfl rfl rfl Ty.mixed (by kernel_rfl) ?_
  simp (disch := omega) only [go_sem, seval, encII_len]
  by_cases hab : a.length = b.length
  · refine aIf.pos (by omega) ?_
    simp (disch := omega) only [go_sem, seval]
    refine awp_loopL (β := Unit) a [0, 1, 5] (fun don _ => [(0, .sl (encII a) .free), (1, .sl (encII b) .free), (5, .int .i64 don.length)]) (fun _ => h) (fun don rest _ => don = b.take don.length) () ?_ rfl (by simp) Ty.mixed (by kernel_rfl) ?_ ?_
    · simp (disch := omega) only [go_sem, seval]
    · rintro don x r _ rfl hx
      have hl3 : b.length = don.length + (r.length + 1) := by rw [← hab]; simp
      obtain ⟨d2, y, r2, rfl, hd⟩ : ∃ d2 y r2, b = d2 ++ y :: r2 ∧ d2.length = don.length := by
        refine ⟨b.take don.length, b[don.length]'(by omega), b.drop (don.length + 1), ?_, by simp; omega⟩
        rw [List.getElem_cons_drop, List.take_append_drop]
      have hdd : don = d2 := by rw [hx, ← hd]; simp
      subst hdd
      have e1 := encII_get don r x
      have e2 := encII_get don r2 y
      simp (disch := omega) only [go_sem, seval, encII_len, List.length_append, List.length_cons]
      refine aIf.pos (by omega) ?_
      simp (disch := omega) only [go_sem, seval, encII_len, List.length_append, List.length_cons, e1, e2]
      refine aCallF.intro (fun _ => sameI_calls Γ x y _ (ha x (by simp))) ?_
      simp (disch := omega) only [go_sem, seval]
      refine aIf.intro (fun hxy => ?_) (fun hxy => ?_) <;> simp (disch := omega) only [go_sem, seval]
      · subst hxy
        refine roundL_next () ?_ ?_ rfl
        · rw [List.length_append, List.length_singleton, List.take_length_add_append]; rfl
        · simp (disch := omega) only [go_sem, seval, List.length_append]
      · rw [decide_eq_false]
        intro e
        have := List.append_cancel_left e
        rw [List.cons.injEq] at this
        exact hxy this.1
    · intro _ hx
      simp (disch := omega) only [go_sem, seval, encII_len]
      refine AWP.keep [] (aCode_ok Ty.mixed _ _ _ _ (by kernel_rfl) ?_)
      simp (disch := omega) only [go_sem, seval]
      rw [hab, List.take_length] at hx
      rw [decide_eq_true hx]
  · refine aIf.neg (by omega) ?_
    simp (disch := omega) only [go_sem, seval]
    rw [decide_eq_false fun e => hab (by rw [e])]
def fewF (l : List (List Int)) : Bool := l.all (fun s => decide (s.length ≤ 12)) && decide (l.length ≤ 40)
set_option maxRecDepth 100000 in
theorem fewsets_calls (Γ : Nat → Option (List AV)) (l : List (List Int)) (h : AH) (hl : l.length ≤ 9223372036854775807) :
    ACalls Try.prog Γ 37 [.sl (encII l) .free] h fun v h' => h' = h ∧ v = .bool (fewF l) := by
  refine ACalls.drop ?_
  refine acalls_code (rs := [.tmp 2]) Try.func37 rfl rfl rfl rfl Ty.mixed (by kernel_rfl) ?_
  simp (disch := omega) only [go_sem, seval]
  refine awp_loopL (β := Unit) l [0, 3] (fun don _ => [(0, .sl (encII l) .free), (3, .int .i64 don.length)]) (fun _ => h) (fun don rest _ => l.all (fun s => decide (s.length ≤ 12)) = rest.all fun s => decide (s.length ≤ 12)) () ?_ rfl rfl Ty.mixed (by kernel_rfl) ?_ ?_
  · simp (disch := omega) only [go_sem, seval]
  · rintro don x r _ rfl hx
    have hl3 := len_mid hl
    have e1 := encII_get don r x
    simp (disch := omega) only [go_sem, seval, encII_len, List.length_append, List.length_cons]
    refine aIf.pos (by omega) ?_
    simp (disch := omega) only [go_sem, seval, encII_len, List.length_append, List.length_cons, e1, encI_len]
    rw [List.all_cons] at hx
    refine aIf.intro (fun h1 => ?_) (fun h1 => ?_) <;> simp (disch := omega) only [go_sem, seval]
    · rw [fewF, hx, decide_eq_false (by omega)]; rfl
    · refine roundL_next () ?_ ?_ rfl
      · rw [hx, decide_eq_true (by omega)]; rfl
      · simp (disch := omega) only [go_sem, seval, List.length_append]
  · intro _ hx
    simp (disch := omega) only [go_sem, seval, encII_len]
    refine AWP.keep [0] (aCode_ok Ty.mixed _ _ _ _ (by kernel_rfl) ?_)
    simp (disch := omega) only [go_sem, seval, encII_len]
    rw [fewF, hx, List.all_nil, Bool.true_and]
    congr 1
    rw [decide_eq_decide]; omega
set_option maxRecDepth 100000 in
theorem rblocks_calls (Γ : Nat → Option (List AV)) (g : Gt) (s : List Int) (h : AH) (hs : Sh g) (hb : allLeaves g ≤ 1000) (hl : s.length ≤ 1000000) :
    ACalls Try.prog Γ 73 [encG g, .sl (encI s) .free] h fun v h' => h' = h ∧ v = .bool (blkP g s) := by
  cases g with | mk p n l =>
  have hp := pplF_len hb
  have c1 := fun h => ppl_calls Γ (.mk p n l) h hs hb
  have c2 := fun h => without_calls Γ (pplF (.mk p n l)) s h (by omega) hl
  have c3 := fun h => permits_calls Γ (.mk p n l) (wtF (pplF (.mk p n l)) s) h hs (by have := wtF_len (pplF (.mk p n l)) s; omega)
  simp only [encG_mk] at c1 c3 ⊢
  refine ACalls.drop ?_
  refine acalls_code (rs := [.tmp 4]) Try.func73 rfl rfl rfl rfl Ty.mixed (by kernel_rfl) ?_
  simp (disch := omega) only [go_sem, seval]
  refine aCallF.intro (fun _ => c1 _) ?_
  simp (disch := omega) only [go_sem, seval]
  refine aCallF.intro (fun _ => c2 _) ?_
  simp (disch := omega) only [go_sem, seval]
  refine aCallF.intro (fun _ => c3 _) ?_
  simp (disch := omega) only [go_sem, seval]
  rfl
end Go.Proofs.Ytnioapinljedmaa

/- The reference's smallest sets, and what it says of lists that agree. No conditions. -/
set_option linter.unusedSimpArgs false
set_option linter.unusedVariables false
namespace Go.Proofs.Ytnioapinljedmaa
open Go Go.Proofs Go.Abs

set_option maxRecDepth 100000 in
theorem ordered_calls (Γ : Nat → Option (List AV)) (P : List Int) (l : List (List Int)) (h : AH) (hl : l.length ≤ 1000000) (hb : ∀ a ∈ l, a.length ≤ 1000000) (hP : P.length ≤ 1000000) :
    ACalls Try.prog Γ 72 [.sl (encI P) .free, .sl (encII l) .free] h fun v h' => h' = h ∧ v = .bool (ordF P [] l) := by
  refine ACalls.drop ?_
  refine acalls_code (rs := [.tmp 4]) Try.func72 rfl rfl rfl rfl Ty.mixed (by kernel_rfl) ?_
  simp (disch := omega) only [go_sem, seval]
  refine awp_loopL (β := Unit) l [0, 1, 5] (fun don _ => [(0, .sl (encI P) .free), (1, .sl (encII l) .free), (5, .int .i64 don.length)]) (fun _ => h) (fun don rest _ => ordF P [] l = ordF P don rest) () ?_ rfl rfl Ty.mixed (by kernel_rfl) ?_ ?_
  · simp (disch := omega) only [go_sem, seval]
  · rintro don x r _ rfl hx
    have hl3 := len_mid hl
    have e1 := encII_get don r x
    have c1 := fun h => incr_calls Γ x h (by have := hb x (by simp); omega)
    have c2 := fun h => inside_calls Γ x P h (hb x (by simp)) hP
    rw [ordF, stepF] at hx
    generalize hi : incF x = b1 at c1 hx
    generalize hj : decide (∀ y ∈ x, y ∈ P) = b2 at c2 hx
    simp (disch := omega) only [go_sem, seval, encII_len, List.length_append, List.length_cons]
    refine aIf.pos (by omega) ?_
    simp (disch := omega) only [go_sem, seval, encII_len, List.length_append, List.length_cons, e1]
    refine aCallF.intro (fun _ => c1 _) ?_
    simp (disch := omega) only [go_sem, seval]
    cases b1 with
    | false => simp (disch := omega) only [go_sem, seval]; rw [hx]; rfl
    | true =>
    simp (disch := omega) only [go_sem, seval, encII_len, List.length_append, List.length_cons, e1]
    refine aCallF.intro (fun _ => c2 _) ?_
    simp (disch := omega) only [go_sem, seval]
    cases b2 with
    | false => simp (disch := omega) only [go_sem, seval]; rw [hx]; rfl
    | true =>
    have inner : ∀ b3, befL don x = b3 → b3 = true → ordF P [] (don ++ x :: r) = ((don.all fun t => !decide (∀ y ∈ t, y ∈ x)) && ordF P (don ++ [x]) r) := fun b3 e1 e2 => by
      rw [hx, e1, e2]; rfl
    rcases List.eq_nil_or_concat don with rfl | ⟨d0, t, rfl⟩
    · simp (disch := omega) only [go_sem, seval, List.length_nil]
      refine awp_loopL (β := Unit) ([] : List (List Int)) [0, 1, 5, 6] (fun d _ => [(0, .sl (encI P) .free), (1, .sl (encII (x :: r)) .free), (5, .int .i64 0), (6, .int .i64 d.length)]) (fun _ => h) (fun _ _ _ => True) () ?_ rfl trivial Ty.mixed (by kernel_rfl) ?_ ?_
      · simp (disch := omega) only [go_sem, seval, List.nil_append, List.length_nil]
      · rintro d y q _ he; simp at he
      · intro _ _
        simp (disch := omega) only [go_sem, seval, List.length_nil]
        refine AWP.keep [0, 1, 5] (aCode_ok Ty.mixed _ _ _ _ (by kernel_rfl) ?_)
        simp (disch := omega) only [go_sem, seval]
        refine roundL_next () ?_ ?_ rfl
        · exact inner true rfl rfl
        · simp (disch := omega) only [go_sem, seval]
    · rw [List.concat_eq_append] at *
      have hd0 : d0.length + 1 ≤ 1000000 := by simp at hl3; omega
      have e2 : (encII (d0 ++ [t] ++ x :: r))[d0.length]? = some (.sl (encI t) .free) := by rw [List.append_assoc]; exact encII_get d0 _ t
      have c3 := fun h => before_calls Γ t x h (hb t (by simp)) (hb x (by simp))
      have hbl : befL (d0 ++ [t]) x = beforeF t x := by simp [befL]
      generalize hbv : beforeF t x = b3 at c3 hbl
      simp (disch := omega) only [go_sem, seval, encII_len, List.length_append, List.length_cons, List.length_nil]
      refine aIf.pos (by omega) ?_
      simp (disch := omega) only [go_sem, seval, encII_len, List.length_append, List.length_cons, List.length_nil]
      simp only [List.length_append, List.length_cons, List.length_nil] at e1
      simp (disch := omega) only [go_sem, seval, e2]
      refine ⟨by omega, ?_⟩
      rw [show (((d0.length : Int) + 1).toNat) = d0.length + 1 from by omega]
      simp (disch := omega) only [go_sem, seval, e1]
      refine aCallF.intro (fun _ => c3 _) ?_
      simp (disch := omega) only [go_sem, seval]
      cases b3 with
      | false => simp (disch := omega) only [go_sem, seval]; rw [hx, hbl]; rfl
      | true =>
      simp (disch := omega) only [go_sem, seval]
      refine awp_loopL (β := Unit) (d0 ++ [t]) [0, 1, 5, 6] (fun d _ => [(0, .sl (encI P) .free), (1, .sl (encII (d0 ++ [t] ++ x :: r)) .free), (5, .int .i64 (d0.length + 1)), (6, .int .i64 d.length)]) (fun _ => h) (fun _ rest _ => ordF P [] (d0 ++ [t] ++ x :: r) = ((rest.all fun t => !decide (∀ y ∈ t, y ∈ x)) && ordF P (d0 ++ [t] ++ [x]) r)) () ?_ rfl (inner true hbl rfl) Ty.mixed (by kernel_rfl) ?_ ?_
      · simp (disch := omega) only [go_sem, seval]
      · rintro d y q _ he hy
        have hdl : d.length + 1 + q.length = d0.length + 1 := by have := congrArg List.length he; simp at this; omega
        have e3 : (encII (d0 ++ [t] ++ x :: r))[d.length]? = some (.sl (encI y) .free) := by rw [he, List.append_assoc]; exact encII_get d _ y
        have c4 := fun h => inside_calls Γ y x h (hb y (by rw [he]; simp)) (hb x (by simp))
        rw [List.all_cons] at hy
        generalize hq : decide (∀ z ∈ y, z ∈ x) = b4 at c4 hy
        simp (disch := omega) only [go_sem, seval]
        refine aIf.pos (by omega) ?_
        simp (disch := omega) only [go_sem, seval, e3]
        refine ⟨by omega, ?_⟩
        rw [show (((d0.length : Int) + 1).toNat) = d0.length + 1 from by omega]
        simp (disch := omega) only [go_sem, seval, e1]
        refine aCallF.intro (fun _ => c4 _) ?_
        simp (disch := omega) only [go_sem, seval]
        cases b4 with
        | true => simp (disch := omega) only [go_sem, seval]; rw [hy]; rfl
        | false =>
          simp (disch := omega) only [go_sem, seval]
          refine roundL_next () ?_ ?_ rfl
          · rw [hy]; rfl
          · simp (disch := omega) only [go_sem, seval, List.length_append]
      · intro _ hy
        simp (disch := omega) only [go_sem, seval, List.length_append, List.length_cons, List.length_nil]
        refine AWP.keep [0, 1, 5] (aCode_ok Ty.mixed _ _ _ _ (by kernel_rfl) ?_)
        simp (disch := omega) only [go_sem, seval]
        refine roundL_next () ?_ ?_ rfl
        · rw [hy]; rfl
        · simp (disch := omega) only [go_sem, seval, List.length_append, List.length_cons, List.length_nil]
  · intro _ hx
    simp (disch := omega) only [go_sem, seval, encII_len]
    refine AWP.keep [] (aCode_ok Ty.mixed _ _ _ _ (by kernel_rfl) ?_)
    simp (disch := omega) only [go_sem, seval]
    rw [hx]; rfl
def fineF (g : Gt) (b : Bool) : List Int → Bool := if b then blkP g else holdP g
def smallR (g : Gt) (b : Bool) : List (List Int) × Int := if errF g = 0 then (if 256 < (minsF (pplF g) (fineF g b)).length then ([], 2) else (minsF (pplF g) (fineF g b), 0)) else ([], errF g)
def encS (r : List (List Int) × Int) : AV := .tuple [.sl (encII r.1) .free, .int .i64 r.2]
theorem allF_le {l : List Int} (h : l.length ≤ 12) : (allF l).length ≤ 60000 := by have := allUp_len l h (l.length + 1); unfold allF; omega
set_option maxRecDepth 100000 in
theorem rsmall_calls (Γ : Nat → Option (List AV)) (g : Gt) (b : Bool) (h : AH) (hs : Sh g) :
    ACalls Try.prog Γ 67 [encG g, .bool b] h fun v h' => h' = h ∧ v = encS (smallR g b) := by
  cases g with | mk p n gl =>
  have c0 := fun h => err_calls Γ (.mk p n gl) h hs
  rw [smallR, encS]
  generalize hG : (Gt.mk p n gl) = G at *
  have eG : encG G = .agg [.int .i64 p, .int .i64 n, .sl (gl.map encG) .free] := by rw [← hG, encG_mk]
  refine ACalls.dropL ?_
  rw [eG] at c0 ⊢
  refine acalls_code (rs := [.tmp 4, .tmp 5]) Try.func67 rfl rfl rfl rfl Ty.mixed (by kernel_rfl) ?_
  simp (disch := omega) only [go_sem, seval]
  refine ACalls.det (c0 _) ?_
  simp (disch := omega) only [go_sem, seval]
  refine aIf.intro (fun herr => ?_) (fun herr => ?_) <;> simp (disch := omega) only [go_sem, seval]
  rotate_left
  · rw [if_neg herr]
    rfl
  obtain ⟨hck, hlv, hpn⟩ := errF_facts herr
  have c1 := fun h => ppl_calls Γ G h hs (by omega)
  have c2 := fun h => all_calls Γ (pplF G) h hpn
  have hal := allF_le hpn
  rw [eG] at c1
  refine ACalls.det (c1 _) ?_
  simp (disch := omega) only [go_sem, seval]
  refine ACalls.det (c2 _) ?_
  simp (disch := omega) only [go_sem, seval]
  obtain ⟨K, hK⟩ : ∃ K : AH, K = h ++ [.row [.int .i64 p, .int .i64 n, .sl (gl.map encG) .free] 24] := ⟨_, rfl⟩
  have KD : ∀ j : AH, ∃ l, K ++ j = h ++ l := by subst hK; intro j; exact ⟨_, List.append_assoc ..⟩
  have Kg : ∀ j : AH, (K ++ j)[h.length]? = some (.row [.int .i64 p, .int .i64 n, .sl (gl.map encG) .free] 24) := by subst hK; simp
  refine awp_loopL (β := ChT) (allF (pplF G)) [1, 2, 7, 8, 9] (fun don s => [(1, .bool b), (2, .ptr (some (h.length, 0))), (7, .sl (encII (allF (pplF G))) .free), (8, .sl (encII s.out) s.own), (9, .int .i64 don.length)])
    (fun s => K ++ s.j) (fun don rest s => OwnAt K s.j s.out.length s.own ∧ s.out.length ≤ don.length ∧ minsF (pplF G) (fineF G b) = grdF (fineF G b) s.out rest ∧ ∀ o ∈ s.out, o ∈ allF (pplF G)) ⟨[], .full, []⟩ ?_ (by simp [hK]) ⟨trivial, by simp, rfl, by simp⟩ Ty.mixed (by kernel_rfl) ?_ ?_
  · simp (disch := omega) only [go_sem, seval]
    simp [encII]
  · rintro don x r ⟨out, own, j⟩ hd ⟨ho, hol, hx, hoin⟩
    simp only at ho hol hx hoin ⊢
    have hdl : don.length + 1 + r.length ≤ 60000 := by have := congrArg List.length hd; simp at this; omega
    have e1 : (encII (allF (pplF G)))[don.length]? = some (.sl (encI x) .free) := by rw [hd]; exact encII_get don r x
    have hxl : x.length ≤ 12 := by have := allF_len (l := pplF G) (s := x) (by rw [hd]; simp); omega
    have c3 := fun h => rblocks_calls Γ G x h hs (by omega) (by omega)
    have c4 := fun h => permits_calls Γ G x h hs (by omega)
    rw [eG] at c3 c4
    have hlen : (allF (pplF G)).length = don.length + (r.length + 1) := by rw [hd]; simp
    rw [grdF] at hx
    obtain ⟨f0, hf0⟩ : ∃ f0, f0 = fineF G b x := ⟨_, rfl⟩
    rw [← hf0] at hx
    simp (disch := omega) only [go_sem, seval, encII_len]
    rw [hlen]
    refine aIf.pos (by omega) ?_
    simp (disch := omega) only [go_sem, seval, encII_len, e1, Kg]
    refine aBr.intro (fun hb => ?_) (fun hb => ?_)
    focus
      have hfb : blkP G x = f0 := by rw [hf0, hb]; rfl
      rw [hfb] at c3
      simp (disch := omega) only [go_sem, seval, encII_len, e1, Kg]
      refine aCallF.intro (fun _ => c3 _) ?_
      simp (disch := omega) only [go_sem, seval]
      refine aBr.intro (fun hf => ?_) (fun hf => ?_) <;> simp (disch := omega) only [go_sem, seval]
      focus
        refine aBr.intro (fun hb2 => ?_) (fun hb2 => by rw [hb] at hb2; cases hb2)
        simp (disch := omega) only [go_sem, seval]
    rotate_left 2
    focus
      have hfb : permF G x = f0 := by rw [hf0, hb]; rfl
      rw [hfb] at c4
      simp (disch := omega) only [go_sem, seval, encII_len, e1, Kg]
      refine aBr.intro (fun hb2 => by rw [hb] at hb2; cases hb2) (fun hb2 => ?_)
      simp (disch := omega) only [go_sem, seval, encII_len, e1, Kg]
      refine aCallF.intro (fun _ => c4 _) ?_
      simp (disch := omega) only [go_sem, seval]
      have hf : f0 = f0 := rfl
      skip
    all_goals
      refine awp_loopL (β := Bool) out [1, 2, 7, 8, 9, 10, 11] (fun d fb => [(1, .bool b), (2, .ptr (some (h.length, 0))), (7, .sl (encII (allF (pplF G))) .free), (8, .sl (encII out) own), (9, .int .i64 don.length), (10, .bool fb), (11, .int .i64 d.length)])
        (fun _ => K ++ j) (fun _ rest fb => (f0 && out.all fun o => !decide (∀ y ∈ o, y ∈ x)) = (fb && rest.all fun o => !decide (∀ y ∈ o, y ∈ x))) f0 ?_ rfl rfl Ty.mixed (by kernel_rfl) ?_ ?_
      · simp (disch := omega) only [go_sem, seval, hf]
      · rintro d y q fb hq hfb2
        have hdq : d.length + 1 + q.length = out.length := by rw [hq]; simp; omega
        simp (disch := omega) only [go_sem, seval, encII_len]
        cases fb with
        | false =>
          rw [Bool.false_and] at hfb2
          refine aIf.pos (by omega) ?_
          simp (disch := omega) only [go_sem, seval]
          refine AWP.keep [1, 2, 7, 8, 9, 10] (aCode_ok Ty.mixed _ _ _ _ (by kernel_rfl) ?_)
          simp (disch := omega) only [go_sem, seval]
          refine AWP.keep [1, 2, 7, 8, 9] (aCode_ok Ty.mixed _ _ _ _ (by kernel_rfl) ?_)
          simp (disch := omega) only [go_sem, seval]
          refine roundL_next ⟨out, own, j⟩ ⟨ho, by simp; omega, ?_, hoin⟩ ?_ rfl
          · rw [hx, if_neg (by rw [hfb2]; simp)]
          · simp (disch := omega) only [go_sem, seval, List.length_append]
        | true =>
          rw [Bool.true_and, List.all_cons] at hfb2
          refine aIf.pos (by omega) ?_
          have e2 : (encII out)[d.length]? = some (.sl (encI y) .free) := by rw [hq]; exact encII_get d q y
          have hyl : y.length ≤ 12 := by have := allF_len (l := pplF G) (hoin y (by rw [hq]; simp)); omega
          have c5 := fun h => inside_calls Γ y x h (by omega) (by omega)
          generalize hc5 : decide (∀ z ∈ y, z ∈ x) = b5 at c5 hfb2
          simp (disch := omega) only [go_sem, seval, encII_len, e2]
          simp (disch := omega) only [go_sem, seval, e1]
          refine aCallF.intro (fun _ => c5 _) ?_
          simp (disch := omega) only [go_sem, seval]
          refine roundL_next (!b5) hfb2 ?_ rfl
          simp (disch := omega) only [go_sem, seval, List.length_append]
      · intro fb hfb2
        rw [List.all_nil, Bool.and_true] at hfb2
        simp (disch := omega) only [go_sem, seval, encII_len]
        refine AWP.keep [1, 2, 7, 8, 9, 10] (aCode_ok Ty.mixed _ _ _ _ (by kernel_rfl) ?_)
        simp (disch := omega) only [go_sem, seval]
        cases fb with
        | false =>
          simp (disch := omega) only [go_sem, seval]
          refine AWP.keep [1, 2, 7, 8, 9] (aCode_ok Ty.mixed _ _ _ _ (by kernel_rfl) ?_)
          simp (disch := omega) only [go_sem, seval]
          refine roundL_next ⟨out, own, j⟩ ⟨ho, by simp; omega, ?_, hoin⟩ ?_ rfl
          · rw [hx, if_neg (by rw [hfb2]; simp)]
          · simp (disch := omega) only [go_sem, seval, List.length_append]
        | true =>
          simp (disch := omega) only [go_sem, seval, encII_len]
          simp (disch := omega) only [go_sem, seval, e1]
          refine aAp_sl (by rw [encII_len]; exact ho) (rowsOK_II _) (rowsOK_II [x]) (by simp [encII_len]; omega) (by simp [encII_len]; omega) fun j3 own3 ho3 hg => ?_
          simp (disch := omega) only [go_sem, seval]
          refine AWP.keep [1, 2, 7, 8, 9] (aCode_ok Ty.mixed _ _ _ _ (by kernel_rfl) ?_)
          simp (disch := omega) only [go_sem, seval]
          refine roundL_next ⟨out ++ [x], own3, j3⟩ ⟨?_, by simp; omega, ?_, ?_⟩ ?_ rfl
          · simpa [encII_len] using ho3
          · rw [hx, if_pos hfb2]
          · intro o ho4
            rcases List.mem_append.1 ho4 with ho4 | ho4
            · exact hoin o ho4
            · rw [List.mem_singleton] at ho4; subst ho4; rw [hd]; simp
          · simp (disch := omega) only [go_sem, seval, List.length_append, encII_snoc]
  · rintro ⟨out, own, j⟩ ⟨ho, hol, hx, hoin⟩
    simp only at ho hol hx hoin ⊢
    simp (disch := omega) only [go_sem, seval, encII_len]
    refine AWP.keep [8] (aCode_ok Ty.mixed _ _ _ _ (by kernel_rfl) ?_)
    simp (disch := omega) only [go_sem, seval, encII_len]
    rw [grdF] at hx
    have hout : out.length ≤ 60000 := by omega
    rw [if_pos herr, hx]
    refine aIf.intro (fun h2 => ?_) (fun h2 => ?_) <;> simp (disch := omega) only [go_sem, seval]
    · rw [if_pos (by omega)]
      exact ⟨KD _, rfl⟩
    · rw [if_neg (by omega)]
      refine ⟨KD _, ?_⟩
      simp only [loose, looseL, loose_II, rb_II]
set_option maxRecDepth 100000 in
theorem rsets_calls (Γ : Nat → Option (List AV)) (g : Gt) (h : AH) (hs : Sh g) :
    ACalls Try.prog Γ 33 [encG g] h fun v h' => h' = h ∧ v = encS (smallR g false) := by
  cases g with | mk p n l =>
  have c0 := fun h => rsmall_calls Γ (.mk p n l) false h hs
  rw [encS] at c0 ⊢
  simp only [encG_mk] at c0 ⊢
  refine ACalls.drop ?_
  refine acalls_code (rs := [.tmp 2, .tmp 3]) Try.func33 rfl rfl rfl rfl Ty.mixed (by kernel_rfl) ?_
  simp (disch := omega) only [go_sem, seval]
  refine ACalls.det (c0 _) ?_
  simp (disch := omega) only [go_sem, seval, rb_II]
set_option maxRecDepth 100000 in
theorem rblks_calls (Γ : Nat → Option (List AV)) (g : Gt) (h : AH) (hs : Sh g) :
    ACalls Try.prog Γ 35 [encG g] h fun v h' => h' = h ∧ v = encS (smallR g true) := by
  cases g with | mk p n l =>
  have c0 := fun h => rsmall_calls Γ (.mk p n l) true h hs
  rw [encS] at c0 ⊢
  simp only [encG_mk] at c0 ⊢
  refine ACalls.drop ?_
  refine acalls_code (rs := [.tmp 2, .tmp 3]) Try.func35 rfl rfl rfl rfl Ty.mixed (by kernel_rfl) ?_
  simp (disch := omega) only [go_sem, seval]
  refine ACalls.det (c0 _) ?_
  simp (disch := omega) only [go_sem, seval, rb_II]
def encA (r : Bool × Int) : AV := .tuple [.bool r.1, .int .i64 r.2]
set_option maxRecDepth 100000 in
theorem ragree_calls (Γ : Nat → Option (List AV)) (g : Gt) (l m : List (List Int)) (h : AH) (hs : Sh g) (hl : l.length ≤ 1000000) (hm : m.length ≤ 1000000) (hbl : ∀ a ∈ l, a.length ≤ 1000000) (hbm : ∀ a ∈ m, a.length ≤ 1000000) :
    ACalls Try.prog Γ 39 [encG g, .sl (encII l) .free, .sl (encII m) .free] h fun v h' => h' = h ∧ v = encA (agrF g l m) := by
  cases g with | mk p n gl =>
  have c0 := fun h => err_calls Γ (.mk p n gl) h hs
  rw [agrF, encA]
  generalize hG : (Gt.mk p n gl) = G at *
  have eG : encG G = .agg [.int .i64 p, .int .i64 n, .sl (gl.map encG) .free] := by rw [← hG, encG_mk]
  refine ACalls.drop ?_
  rw [eG] at c0 ⊢
  refine acalls_code (rs := [.tmp 6, .tmp 7]) Try.func39 rfl rfl rfl rfl Ty.mixed (by kernel_rfl) ?_
  simp (disch := omega) only [go_sem, seval]
  refine ACalls.det (c0 _) ?_
  simp (disch := omega) only [go_sem, seval]
  refine aIf.intro (fun herr => ?_) (fun herr => ?_) <;> simp (disch := omega) only [go_sem, seval]
  rotate_left
  · rw [if_neg herr]
  obtain ⟨hck, hlv, hpn⟩ := errF_facts herr
  rw [if_pos herr]
  have c1 := fun h => ppl_calls Γ G h hs (by omega)
  have c2 := fun h => all_calls Γ (pplF G) h hpn
  have c3 := fun h => ordered_calls Γ (pplF G) l h hl hbl (by omega)
  have c4 := fun h => ordered_calls Γ (pplF G) m h hm hbm (by omega)
  have hal := allF_le hpn
  rw [eG] at c1
  generalize hv3 : ordF (pplF G) [] l = b3 at *
  generalize hv4 : ordF (pplF G) [] m = b4 at *
  refine ACalls.det (c1 _) ?_
  simp (disch := omega) only [go_sem, seval]
  refine ACalls.det (c3 _) ?_
  simp (disch := omega) only [go_sem, seval]
  cases b3 with
  | false => simp (disch := omega) only [go_sem, seval]
  | true =>
  simp (disch := omega) only [go_sem, seval]
  refine ACalls.det (c4 _) ?_
  simp (disch := omega) only [go_sem, seval]
  cases b4 with
  | false => simp (disch := omega) only [go_sem, seval]
  | true =>
  simp (disch := omega) only [go_sem, seval]
  obtain ⟨K, hK⟩ : ∃ K : AH, K = h ++ [.row [.int .i64 p, .int .i64 n, .sl (gl.map encG) .free] 24] := ⟨_, rfl⟩
  have KD : ∃ l, K = h ++ l := by subst hK; exact ⟨_, rfl⟩
  have Kg : K[h.length]? = some (.row [.int .i64 p, .int .i64 n, .sl (gl.map encG) .free] 24) := by subst hK; simp
  rw [← hK]
  refine awp_loopL (β := Unit) l [1, 2, 3, 9, 10] (fun don _ => [(1, .sl (encII l) .free), (2, .sl (encII m) .free), (3, .ptr (some (h.length, 0))), (9, .sl (encI (pplF G)) .free), (10, .int .i64 don.length)])
    (fun _ => K) (fun _ rest _ => l.all (holdP G) = rest.all (holdP G)) () ?_ rfl rfl Ty.mixed (by kernel_rfl) ?_ ?_
  · simp (disch := omega) only [go_sem, seval]
  · rintro don x r _ hd hx
    have hlen : l.length = don.length + (r.length + 1) := by rw [hd]; simp
    have e1 : (encII l)[don.length]? = some (.sl (encI x) .free) := by rw [hd]; exact encII_get don r x
    have c5 := fun h => permits_calls Γ G x h hs (by have := hbl x (by rw [hd]; simp); omega)
    rw [eG] at c5
    rw [List.all_cons, holdP] at hx
    generalize hv5 : permF G x = b5 at c5 hx
    simp (disch := omega) only [go_sem, seval, encII_len]
    rw [hlen]
    refine aIf.pos (by omega) ?_
    simp (disch := omega) only [go_sem, seval, e1, Kg]
    refine aCallF.intro (fun _ => c5 _) ?_
    simp (disch := omega) only [go_sem, seval]
    cases b5 with
    | false => simp (disch := omega) only [go_sem, seval]; rw [hx]; exact ⟨KD, rfl⟩
    | true =>
      simp (disch := omega) only [go_sem, seval]
      refine roundL_next () ?_ ?_ rfl
      · rw [hx, Bool.true_and]
      · simp (disch := omega) only [go_sem, seval, List.length_append]
  intro _ h1
  rw [h1, List.all_nil, Bool.true_and]
  simp (disch := omega) only [go_sem, seval, encII_len]
  refine AWP.keep [1, 2, 3, 9] (aCode_ok Ty.mixed _ _ _ _ (by kernel_rfl) ?_)
  simp (disch := omega) only [go_sem, seval]
  refine awp_loopL (β := Unit) m [1, 2, 3, 9, 11] (fun don _ => [(1, .sl (encII l) .free), (2, .sl (encII m) .free), (3, .ptr (some (h.length, 0))), (9, .sl (encI (pplF G)) .free), (11, .int .i64 don.length)])
    (fun _ => K) (fun _ rest _ => m.all (blkP G) = rest.all (blkP G)) () ?_ rfl rfl Ty.mixed (by kernel_rfl) ?_ ?_
  · simp (disch := omega) only [go_sem, seval]
  · rintro don x r _ hd hx
    have hlen : m.length = don.length + (r.length + 1) := by rw [hd]; simp
    have e1 : (encII m)[don.length]? = some (.sl (encI x) .free) := by rw [hd]; exact encII_get don r x
    have c5 := fun h => rblocks_calls Γ G x h hs (by omega) (by have := hbm x (by rw [hd]; simp); omega)
    rw [eG] at c5
    rw [List.all_cons] at hx
    generalize hv5 : blkP G x = b5 at c5 hx
    simp (disch := omega) only [go_sem, seval, encII_len]
    rw [hlen]
    refine aIf.pos (by omega) ?_
    simp (disch := omega) only [go_sem, seval, e1, Kg]
    refine aCallF.intro (fun _ => c5 _) ?_
    simp (disch := omega) only [go_sem, seval]
    cases b5 with
    | false => simp (disch := omega) only [go_sem, seval]; rw [hx]; exact ⟨KD, rfl⟩
    | true =>
      simp (disch := omega) only [go_sem, seval]
      refine roundL_next () ?_ ?_ rfl
      · rw [hx, Bool.true_and]
      · simp (disch := omega) only [go_sem, seval, List.length_append]
  intro _ h2
  rw [h2, List.all_nil, Bool.true_and]
  simp (disch := omega) only [go_sem, seval, encII_len]
  refine AWP.keep [1, 2, 9] (aCode_ok Ty.mixed _ _ _ _ (by kernel_rfl) ?_)
  simp (disch := omega) only [go_sem, seval]
  refine ACalls.det (c2 _) ?_
  simp (disch := omega) only [go_sem, seval]
  refine awp_loopL (β := Unit) (allF (pplF G)) [1, 2, 9, 12, 13] (fun don _ => [(1, .sl (encII l) .free), (2, .sl (encII m) .free), (9, .sl (encI (pplF G)) .free), (12, .sl (encII (allF (pplF G))) .free), (13, .int .i64 don.length)])
    (fun _ => K) (fun _ rest _ => coverF (pplF G) l m = rest.all fun s => someF l s || someF m (wtF (pplF G) s)) () ?_ rfl rfl Ty.mixed (by kernel_rfl) ?_ ?_
  · simp (disch := omega) only [go_sem, seval]
  · rintro don x r _ hd hx
    have hlen : (allF (pplF G)).length = don.length + (r.length + 1) := by rw [hd]; simp
    have e1 : (encII (allF (pplF G)))[don.length]? = some (.sl (encI x) .free) := by rw [hd]; exact encII_get don r x
    have hxl : x.length ≤ 12 := by have := allF_len (l := pplF G) (s := x) (by rw [hd]; simp); omega
    have hwl := wtF_len (pplF G) x
    have c5 := fun h => some_calls Γ l x h (by omega) hbl (by omega)
    have c6 := fun h => without_calls Γ (pplF G) x h (by omega) (by omega)
    have c7 := fun h => some_calls Γ m (wtF (pplF G) x) h (by omega) hbm (by omega)
    rw [List.all_cons] at hx
    generalize hv5 : someF l x = b5 at c5 hx
    generalize hv7 : someF m (wtF (pplF G) x) = b7 at c7 hx
    simp (disch := omega) only [go_sem, seval, encII_len]
    rw [hlen]
    refine aIf.pos (by omega) ?_
    simp (disch := omega) only [go_sem, seval, e1]
    refine ACalls.det (c5 _) ?_
    simp (disch := omega) only [go_sem, seval]
    cases b5 with
    | true =>
      simp (disch := omega) only [go_sem, seval]
      refine roundL_next () ?_ ?_ rfl
      · rw [hx, Bool.true_or, Bool.true_and]
      · simp (disch := omega) only [go_sem, seval, List.length_append]
    | false =>
      simp (disch := omega) only [go_sem, seval, e1]
      refine ACalls.det (c6 _) ?_
      simp (disch := omega) only [go_sem, seval]
      refine ACalls.det (c7 _) ?_
      simp (disch := omega) only [go_sem, seval]
      cases b7 with
      | false => simp (disch := omega) only [go_sem, seval]; rw [hx]; exact ⟨KD, rfl⟩
      | true =>
        simp (disch := omega) only [go_sem, seval]
        refine roundL_next () ?_ ?_ rfl
        · rw [hx, Bool.false_or, Bool.true_and]
        · simp (disch := omega) only [go_sem, seval, List.length_append]
  intro _ h3
  simp (disch := omega) only [go_sem, seval, encII_len]
  refine AWP.keep [] (aCode_ok Ty.mixed _ _ _ _ (by kernel_rfl) ?_)
  simp (disch := omega) only [go_sem, seval]
  rw [h3]
  exact ⟨KD, rfl⟩
end Go.Proofs.Ytnioapinljedmaa
