/- Texts joined: AccI, AccJ, AccK, AccL. No conditions. -/
import Derived.Test.YtelehpccfaedjaaMrCB
import Derived.Test.YtelehpccfaedjaaMrG
/- Equal lists, few, right. No conditions. -/
set_option linter.unusedSimpArgs false
set_option linter.unusedVariables false
namespace Go.Proofs.Ytelehpccfaedjaa
open Go Go.Proofs Go.Abs

set_option maxRecDepth 100000 in
theorem sameInts_calls (Γ : Nat → Option (List AV)) (l : List Int) (h : AH) (hl : l.length ≤ 1000000) :
    ACalls Try.prog Γ 19 [.sl (encI l) .free, .sl (encI l) .free] h fun v h' => h' = h ∧ v = .bool true := by
  refine ACalls.drop ?_
  refine acalls_code (rs := [.tmp 4]) Try.func19 rfl rfl rfl rfl Ty.mixed (by kernel_rfl) ?_
  simp (disch := omega) only [go_sem, seval, encI_len]
  refine awp_loopL (β := Unit) l [0, 1, 5] (fun don _ => [(0, .sl (encI l) .free), (1, .sl (encI l) .free), (5, .int .i64 don.length)]) (fun _ => h) (fun _ _ _ => True) () ?_ rfl trivial Ty.mixed (by kernel_rfl) ?_ ?_
  · simp (disch := omega) only [go_sem, seval]
  · rintro don x r _ hd _
    have hlen : l.length = don.length + 1 + r.length := by rw [hd]; simp; omega
    have e1 : (encI l)[don.length]? = some (.int .i64 x) := by rw [hd]; exact encI_get don r x
    simp (disch := omega) only [go_sem, seval, encI_len]
    refine aIf.pos (by omega) ?_
    simp (disch := omega) only [go_sem, seval, e1]
    refine roundL_next () trivial ?_ rfl
    simp (disch := omega) only [go_sem, seval, List.length_append]
  · intro _ _
    simp (disch := omega) only [go_sem, seval, encI_len]
    refine AWP.keep [] (aCode_ok Ty.mixed _ _ _ _ (by kernel_rfl) ?_)
    simp (disch := omega) only [go_sem, seval]
set_option maxRecDepth 100000 in
theorem sameSteps_calls (Γ : Nat → Option (List AV)) (l : List St) (h : AH) (hl : l.length ≤ 1000000) :
    ACalls Try.prog Γ 22 [.sl (l.map encS) .free, .sl (l.map encS) .free] h fun v h' => h' = h ∧ v = .bool true := by
  refine ACalls.drop ?_
  refine acalls_code (rs := [.tmp 4]) Try.func22 rfl rfl rfl rfl Ty.mixed (by kernel_rfl) ?_
  simp (disch := omega) only [go_sem, seval, List.length_map]
  refine awp_loopL (β := Unit) l [0, 1, 5] (fun don _ => [(0, .sl (l.map encS) .free), (1, .sl (l.map encS) .free), (5, .int .i64 don.length)]) (fun _ => h) (fun _ _ _ => True) () ?_ rfl trivial Ty.mixed (by kernel_rfl) ?_ ?_
  · simp (disch := omega) only [go_sem, seval]
  · rintro don x r _ hd _
    have hlen : l.length = don.length + 1 + r.length := by rw [hd]; simp; omega
    have e1 : (l.map encS)[don.length]? = some (encS x) := by rw [hd]; exact encS_get don r x
    simp only [encS] at e1
    simp (disch := omega) only [go_sem, seval, List.length_map]
    refine aIf.pos (by omega) ?_
    simp (disch := omega) only [go_sem, seval, e1]
    refine roundL_next () trivial ?_ rfl
    simp (disch := omega) only [go_sem, seval, List.length_append]
  · intro _ _
    simp (disch := omega) only [go_sem, seval, List.length_map]
    refine AWP.keep [] (aCode_ok Ty.mixed _ _ _ _ (by kernel_rfl) ?_)
    simp (disch := omega) only [go_sem, seval]
def fewA (l : List Bg) (u : List Us) : Bool := (decide (l.length ≤ 20) || (decide (4096 < l.length) && decide (l.length ≤ 4200))) && (decide (u.length ≤ 20) || (decide (4096 < u.length) && decide (u.length ≤ 4200)))
set_option maxRecDepth 100000 in
theorem few53_calls (Γ : Nat → Option (List AV)) (l : List Bg) (u : List Us) (h : AH) :
    ACalls Try.prog Γ 14 [.sl (encBs l) .free, .sl (encUs u) .free] h fun v h' => h' = h ∧ v = .bool (fewA l u) := by
  refine ACalls.drop ?_
  refine acalls_code (rs := [.tmp 4]) Try.func14 rfl rfl rfl rfl Ty.mixed (by kernel_rfl) ?_
  simp (disch := omega) only [go_sem, seval, encBs_len, encUs_len]
  repeat' (refine aIf.intro (fun _ => ?_) (fun _ => ?_) <;> simp (disch := omega) only [go_sem, seval, encBs_len, encUs_len])
  all_goals first
    | (refine aBr.intro (fun _ => ?_) (fun _ => ?_) <;> simp (disch := omega) only [go_sem, seval, encBs_len, encUs_len])
    | (congr 1; rw [Bool.eq_iff_iff]; simp [fewA]; omega)
theorem few_le {l : List Bg} {u : List Us} (h : fewA l u = true) : l.length ≤ 4200 ∧ u.length ≤ 4200 := by
  simp only [fewA, Bool.and_eq_true, Bool.or_eq_true, decide_eq_true_eq] at h
  omega
set_option maxRecDepth 100000 in
/-- Are all numbers times? -/
theorem right53_calls (Γ : Nat → Option (List AV)) (l : List Bg) (u : List Us) (ts : List Int) (h : AH) (hl : ts.length ≤ 1000) :
    ACalls Try.prog Γ 23 [.sl (encBs l) .free, .sl (encUs u) .free, .sl (encI ts) .free] h fun v h' => h' = h ∧ v = .bool (ts.all timeF && decide (l.length ≤ 20) && decide (u.length ≤ 20) && decide (errA l u = 0)) := by
  have c1 := fun (e1 : l.length ≤ 20) (e2 : u.length ≤ 20) h => rerror_calls Γ l u h (by omega) (by omega)
  generalize errA l u = e at *
  refine ACalls.drop ?_
  refine acalls_code (rs := [.tmp 6]) Try.func23 rfl rfl rfl rfl Ty.mixed (by kernel_rfl) ?_
  simp (disch := omega) only [go_sem, seval, encI_len]
  refine awp_loopL (β := Unit) ts [0, 1, 9, 10, 11] (fun don _ => [(0, .sl (encBs l) .free), (1, .sl (encUs u) .free), (9, .sl (encI ts) .free), (10, .int .i64 ts.length), (11, .int .i64 don.length)]) (fun _ => h) (fun don _ _ => don.all timeF = true) () ?_ rfl rfl Ty.mixed (by kernel_rfl) ?_ ?_
  · simp (disch := omega) only [go_sem, seval]
  · rintro don x r _ hd hs
    have hlen : ts.length = don.length + 1 + r.length := by rw [hd]; simp; omega
    have e1 : (encI ts)[don.length]? = some (.int .i64 x) := by rw [hd]; exact encI_get don r x
    simp (disch := omega) only [go_sem, seval]
    refine aIf.pos (by omega) ?_
    simp (disch := omega) only [go_sem, seval, e1]
    refine ACalls.det (rtime_calls Γ x _) ?_
    cases hx : timeF x with
    | false =>
      simp (disch := omega) only [go_sem, seval]
      rw [hd, List.all_append, List.all_cons, hx]; simp
    | true =>
      simp (disch := omega) only [go_sem, seval]
      refine roundL_next () ?_ ?_ rfl
      · rw [List.all_append, hs, List.all_cons, hx]; rfl
      · simp (disch := omega) only [go_sem, seval, List.length_append]
  · intro _ hs
    simp (disch := omega) only [go_sem, seval]
    refine AWP.keep [0, 1] (aCode_ok Ty.mixed _ _ _ _ (by kernel_rfl) ?_)
    simp (disch := omega) only [go_sem, seval, encBs_len, encUs_len]
    rw [hs]
    refine aIf.intro (fun g1 => ?_) (fun g1 => ?_) <;> simp (disch := omega) only [go_sem, seval, encUs_len]
    rotate_left
    · congr 1; rw [Bool.eq_iff_iff]; simp; omega
    refine aIf.intro (fun g2 => ?_) (fun g2 => ?_) <;> simp (disch := omega) only [go_sem, seval, encUs_len]
    rotate_left
    · congr 1; rw [Bool.eq_iff_iff]; simp; omega
    refine ACalls.det (c1 (by omega) (by omega) _) ?_
    simp (disch := omega) only [go_sem, seval]
    congr 1; rw [Bool.eq_iff_iff]; simp; omega
end Go.Proofs.Ytelehpccfaedjaa

/- The program's between, right, Check, within, find. No conditions. -/
set_option linter.unusedSimpArgs false
set_option linter.unusedVariables false
namespace Go.Proofs.Ytelehpccfaedjaa
open Go Go.Proofs Go.Abs

set_option maxRecDepth 100000 in
theorem findI_calls (Γ : Nat → Option (List AV)) (xs : List Int) (p : Int → Bool) (fn : FuncId) (fs cs : List AV) (h : AH) (hx : xs.length ≤ 1000000)
    (H : ∀ x ∈ xs, ACalls Try.prog Γ fn (fs ++ .int .i64 x :: cs) h fun v h' => h' = h ∧ v = .bool (p x)) :
    ACalls Try.prog Γ 115 [.sl (encI xs) .free, .func fn fs cs] h fun v h' => h' = h ∧ ∃ m, v = .int .i64 m ∧ decide (0 ≤ m) = xs.any p := by
  refine ACalls.drop ?_
  refine acalls_code (rs := [.tmp 4]) Try.func115 rfl rfl rfl rfl Ty.mixed (by kernel_rfl) ?_
  simp (disch := omega) only [go_sem, seval, encI_len]
  refine awp_loopL (β := Unit) xs [0, 1, 7, 8] (fun don _ => [(0, .sl (encI xs) .free), (1, .func fn fs cs), (7, .int .i64 xs.length), (8, .int .i64 don.length)])
      (fun _ => h) (fun don _ _ => ∀ y ∈ don, p y = false) () ?_ rfl (by simp) Ty.mixed (by kernel_rfl) ?_ ?_
  · simp (disch := omega) only [go_sem, seval]
  · rintro don x r _ hd hs
    have hlen : xs.length = don.length + 1 + r.length := by rw [hd]; simp; omega
    have e1 : (encI xs)[don.length]? = some (.int .i64 x) := by rw [hd]; exact encI_get don r x
    simp (disch := omega) only [go_sem, seval]
    refine aIf.pos (by omega) ?_
    simp (disch := omega) only [go_sem, seval, e1]
    refine ACalls.det ((H x (by rw [hd]; simp)).args (by simp)) ?_
    cases hp : p x with
    | true =>
      simp (disch := omega) only [go_sem, seval]
      refine ⟨don.length, rfl, ?_⟩
      rw [List.any_eq_true.2 ⟨x, by rw [hd]; simp, hp⟩, decide_eq_true (by omega)]
    | false =>
      simp (disch := omega) only [go_sem, seval]
      refine roundL_next () ?_ ?_ rfl
      · intro y hy
        rcases List.mem_append.1 hy with hy | hy
        · exact hs y hy
        · rw [List.mem_singleton] at hy; subst hy; exact hp
      · simp (disch := omega) only [go_sem, seval, List.length_append]
  · intro _ hs
    simp (disch := omega) only [go_sem, seval]
    refine AWP.keep [] (aCode_ok Ty.mixed _ _ _ _ (by kernel_rfl) ?_)
    simp (disch := omega) only [go_sem, seval]
    refine ⟨-1, rfl, ?_⟩
    rw [List.any_eq_false.2 fun y hy => by rw [hs y hy]; simp]; rfl
set_option maxRecDepth 100000 in
theorem containsI_calls (Γ : Nat → Option (List AV)) (xs : List Int) (p : Int → Bool) (fn : FuncId) (fs cs : List AV) (h : AH) (hx : xs.length ≤ 1000000)
    (H : ∀ x ∈ xs, ACalls Try.prog Γ fn (fs ++ .int .i64 x :: cs) h fun v h' => h' = h ∧ v = .bool (p x)) :
    ACalls Try.prog Γ 87 [.sl (encI xs) .free, .func fn fs cs] h fun v h' => h' = h ∧ v = .bool (xs.any p) := by
  refine ACalls.drop ?_
  refine acalls_code (rs := [.tmp 4]) Try.func87 rfl rfl rfl rfl Ty.mixed (by kernel_rfl) ?_
  simp (disch := omega) only [go_sem, seval]
  refine ACalls.then (findI_calls Γ xs p fn fs cs _ hx H) ?_
  rintro _ _ ⟨rfl, m, rfl, hm⟩
  simp (disch := omega) only [go_sem, seval]
  rw [hm]
set_option maxRecDepth 100000 in
theorem between1_calls (Γ : Nat → Option (List AV)) (n a b : Int) (i j : Nat) (h : AH) (hi : h[i]? = some (.row [.int .i64 a] 3)) (hj : h[j]? = some (.row [.int .i64 b] 3)) :
    ACalls Try.prog Γ 88 [.int .i64 n, .ptr (some (i, 0)), .ptr (some (j, 0))] h fun v h' => h' = h ∧ v = .bool (!inR n a b) := by
  refine ACalls.drop ?_
  refine acalls_code (rs := [.tmp 4]) Try.func88 rfl rfl rfl rfl Ty.mixed (by kernel_rfl) ?_
  simp (disch := omega) only [go_sem, seval, hi, hj]
  refine aIf.intro (fun h1 => ?_) (fun h1 => ?_) <;> simp (disch := omega) only [go_sem, seval, hi, hj]
  · congr 1; rw [Bool.eq_iff_iff]; simp [inR]; omega
  · congr 1; rw [Bool.eq_iff_iff]; simp [inR]; omega
set_option maxRecDepth 100000 in
theorem between_calls (Γ : Nat → Option (List AV)) (a b : Int) (xs : List Int) (h : AH) (hx : xs.length ≤ 1000000) :
    ACalls Try.prog Γ 54 [.int .i64 a, .int .i64 b, .sl (encI xs) .free] h fun v h' => h' = h ∧ v = .bool (xs.all fun n => inR n a b) := by
  refine ACalls.drop ?_
  refine acalls_code (rs := [.tmp 6]) Try.func54 rfl rfl rfl rfl Ty.mixed (by kernel_rfl) ?_
  simp (disch := omega) only [go_sem, seval]
  refine ACalls.det (containsI_calls Γ xs (fun n => !inR n a b) 88 [] [.ptr (some (h.length, 0)), .ptr (some (h.length + 1, 0))] _ hx fun x _ => (between1_calls Γ x a b h.length (h.length + 1) _ (by simp) (by simp)).args (by simp)) ?_
  simp (disch := omega) only [go_sem, seval]
  congr 1
  rw [List.not_any_eq_all_not]
  simp
/-- One number, two numbers. -/
theorem between1 (Γ : Nat → Option (List AV)) (a b x : Int) (own : Abs.Own) (h : AH) :
    ACalls Try.prog Γ 54 [.int .i64 a, .int .i64 b, .sl [.int .i64 x] own] h fun v h' => h' = h ∧ v = .bool (inR x a b) := by
  have := between_calls Γ a b [x] h (by simp)
  simp only [List.all_cons, List.all_nil, Bool.and_true] at this
  exact this.ofLoose (by simp (disch := omega) only [go_sem, seval, encI, List.map_cons, List.map_nil])
theorem between2 (Γ : Nat → Option (List AV)) (a b x y : Int) (own : Abs.Own) (h : AH) :
    ACalls Try.prog Γ 54 [.int .i64 a, .int .i64 b, .sl [.int .i64 x, .int .i64 y] own] h fun v h' => h' = h ∧ v = .bool (inR x a b && inR y a b) := by
  have := between_calls Γ a b [x, y] h (by simp)
  simp only [List.all_cons, List.all_nil, Bool.and_true] at this
  exact this.ofLoose (by simp (disch := omega) only [go_sem, seval, encI, List.map_cons, List.map_nil])
set_option maxRecDepth 100000 in
theorem pwithin_calls (Γ : Nat → Option (List AV)) (b : Int) (xs : List Int) (h : AH) (hx : xs.length ≤ 1000000) :
    ACalls Try.prog Γ 38 [.int .i64 b, .sl (encI xs) .free] h fun v h' => h' = h ∧ v = .bool (xs.all fun n => inR n 0 (b - 1)) := by
  refine ACalls.drop ?_
  refine acalls_code (rs := [.tmp 4]) Try.func38 rfl rfl rfl rfl Ty.mixed (by kernel_rfl) ?_
  simp (disch := omega) only [go_sem, seval, encI_len]
  refine awp_loopL (β := Unit) xs [0, 7, 8, 9] (fun don _ => [(0, .int .i64 b), (7, .sl (encI xs) .free), (8, .int .i64 xs.length), (9, .int .i64 don.length)]) (fun _ => h) (fun don _ _ => ∀ y ∈ don, inR y 0 (b - 1) = true) () ?_ rfl (by simp) Ty.mixed (by kernel_rfl) ?_ ?_
  · simp (disch := omega) only [go_sem, seval]
  · rintro don x r _ hd hs
    have hlen : xs.length = don.length + 1 + r.length := by rw [hd]; simp; omega
    have e1 : (encI xs)[don.length]? = some (.int .i64 x) := by rw [hd]; exact encI_get don r x
    have no : inR x 0 (b - 1) = false → (xs.all fun n => inR n 0 (b - 1)) = false := fun e => by rw [List.all_eq_false]; exact ⟨x, by rw [hd]; simp, by simp [e]⟩
    simp (disch := omega) only [go_sem, seval]
    refine aIf.pos (by omega) ?_
    simp (disch := omega) only [go_sem, seval, e1]
    refine aIf.intro (fun h1 => ?_) (fun h1 => ?_) <;> simp (disch := omega) only [go_sem, seval]
    · rw [no (by simp [inR]; omega)]
    refine aIf.intro (fun h2 => ?_) (fun h2 => ?_) <;> simp (disch := omega) only [go_sem, seval]
    · rw [no (by simp [inR]; omega)]
    · refine roundL_next () ?_ ?_ rfl
      · intro y hy
        rcases List.mem_append.1 hy with hy | hy
        · exact hs y hy
        · rw [List.mem_singleton] at hy; subst hy; simp [inR]; omega
      · simp (disch := omega) only [go_sem, seval, List.length_append]
  · intro _ hs
    simp (disch := omega) only [go_sem, seval]
    refine AWP.keep [] (aCode_ok Ty.mixed _ _ _ _ (by kernel_rfl) ?_)
    simp (disch := omega) only [go_sem, seval]
    rw [List.all_eq_true.2 hs]
theorem pwithin1 (Γ : Nat → Option (List AV)) (b x : Int) (own : Abs.Own) (h : AH) :
    ACalls Try.prog Γ 38 [.int .i64 b, .sl [.int .i64 x] own] h fun v h' => h' = h ∧ v = .bool (inR x 0 (b - 1)) := by
  have := pwithin_calls Γ b [x] h (by simp)
  simp only [List.all_cons, List.all_nil, Bool.and_true] at this
  exact this.ofLoose (by simp (disch := omega) only [go_sem, seval, encI, List.map_cons, List.map_nil])
theorem pwithin2 (Γ : Nat → Option (List AV)) (b x y : Int) (own : Abs.Own) (h : AH) :
    ACalls Try.prog Γ 38 [.int .i64 b, .sl [.int .i64 x, .int .i64 y] own] h fun v h' => h' = h ∧ v = .bool (inR x 0 (b - 1) && inR y 0 (b - 1)) := by
  have := pwithin_calls Γ b [x, y] h (by simp)
  simp only [List.all_cons, List.all_nil, Bool.and_true] at this
  exact this.ofLoose (by simp (disch := omega) only [go_sem, seval, encI, List.map_cons, List.map_nil])
set_option maxHeartbeats 1000000 in
set_option maxRecDepth 100000 in
theorem pright_calls (Γ : Nat → Option (List AV)) (x : Bg) (h : AH) :
    ACalls Try.prog Γ 86 [encB x] h fun v h' => h' = h ∧ v = .bool (rightB x) := by
  obtain ⟨no, at_, known, kind, period, count, value, gone⟩ := x
  have c1 := fun o h => between1 Γ 0 1048576 no o h
  have c2 := fun o h => between2 Γ 0 1099511627775 at_ known o h
  have c4 := fun o h => between1 Γ (-1) 15 kind o h
  have c5 := fun o h => between1 Γ 1 1099511627776 period o h
  have c6 := fun o h => between1 Γ 0 1048576 count o h
  have c7 := fun o h => between1 Γ 0 1099511627776 value o h
  have c8 := fun o h => between1 Γ 0 0 count o h
  have c9 := fun o h => between1 Γ 0 0 value o h
  have hR : rightB ⟨no, at_, known, kind, period, count, value, gone⟩ = (inR no 0 1048576 && (inR at_ 0 1099511627775 && inR known 0 1099511627775) && inR kind (-1) 15 && inR period 1 1099511627776 &&
      (if gone then inR count 0 0 && inR value 0 0 else inR count 0 1048576 && inR value 0 1099511627776)) := by
    rw [rightB, show END - 1 = 1099511627775 from rfl, show END = 1099511627776 from rfl]
    simp only [Bool.and_assoc]
  rw [hR]
  simp only [encB]
  generalize inR no 0 1048576 = b1 at *
  generalize (inR at_ 0 1099511627775 && inR known 0 1099511627775) = b2 at *
  generalize inR kind (-1) 15 = b4 at *
  generalize inR period 1 1099511627776 = b5 at *
  generalize inR count 0 1048576 = b6 at *
  generalize inR value 0 1099511627776 = b7 at *
  generalize inR count 0 0 = b8 at *
  generalize inR value 0 0 = b9 at *
  refine ACalls.drop ?_
  refine acalls_code (rs := [.tmp 2]) Try.func86 rfl rfl rfl rfl Ty.mixed (by kernel_rfl) ?_
  simp (disch := omega) only [go_sem, seval]
  cases gone with
  | true =>
    simp (disch := omega) only [go_sem, seval]
    refine ACalls.det (c1 _ _) ?_
    cases b1 with
    | false => simp (disch := omega) only [go_sem, seval]
    | true =>
    simp (disch := omega) only [go_sem, seval]
    refine ACalls.det (c2 _ _) ?_
    cases b2 with
    | false => simp (disch := omega) only [go_sem, seval]
    | true =>
    simp (disch := omega) only [go_sem, seval]
    refine ACalls.det (c4 _ _) ?_
    cases b4 with
    | false => simp (disch := omega) only [go_sem, seval]
    | true =>
    simp (disch := omega) only [go_sem, seval]
    refine ACalls.det (c5 _ _) ?_
    cases b5 with
    | false => simp (disch := omega) only [go_sem, seval]
    | true =>
    simp (disch := omega) only [go_sem, seval]
    refine ACalls.det (c8 _ _) ?_
    cases b8 with
    | false => simp (disch := omega) only [go_sem, seval]
    | true =>
    simp (disch := omega) only [go_sem, seval]
    refine ACalls.det (c9 _ _) ?_
    simp (disch := omega) only [go_sem, seval]
  | false =>
    simp (disch := omega) only [go_sem, seval]
    refine ACalls.det (c1 _ _) ?_
    cases b1 with
    | false => simp (disch := omega) only [go_sem, seval]
    | true =>
    simp (disch := omega) only [go_sem, seval]
    refine ACalls.det (c2 _ _) ?_
    cases b2 with
    | false => simp (disch := omega) only [go_sem, seval]
    | true =>
    simp (disch := omega) only [go_sem, seval]
    refine ACalls.det (c4 _ _) ?_
    cases b4 with
    | false => simp (disch := omega) only [go_sem, seval]
    | true =>
    simp (disch := omega) only [go_sem, seval]
    refine ACalls.det (c5 _ _) ?_
    cases b5 with
    | false => simp (disch := omega) only [go_sem, seval]
    | true =>
    simp (disch := omega) only [go_sem, seval]
    refine ACalls.det (c6 _ _) ?_
    cases b6 with
    | false => simp (disch := omega) only [go_sem, seval]
    | true =>
    simp (disch := omega) only [go_sem, seval]
    refine ACalls.det (c7 _ _) ?_
    simp (disch := omega) only [go_sem, seval]
end Go.Proofs.Ytelehpccfaedjaa

/- The program's Check, uses, examine, find. No conditions. -/
set_option linter.unusedSimpArgs false
set_option linter.unusedVariables false
namespace Go.Proofs.Ytelehpccfaedjaa
open Go Go.Proofs Go.Abs

set_option maxHeartbeats 1000000 in
set_option maxRecDepth 100000 in
theorem pcheck_calls (Γ : Nat → Option (List AV)) (l : List Bg) (h : AH) (hl : l.length ≤ 1000000) :
    ACalls Try.prog Γ 53 [.sl (encBs l) .free] h fun v h' => h' = h ∧ v = .int .i64 (checkB l) := by
  refine ACalls.drop ?_
  refine acalls_code (rs := [.tmp 2]) Try.func53 rfl rfl rfl rfl Ty.mixed (by kernel_rfl) ?_
  simp (disch := omega) only [go_sem, seval, encBs_len]
  refine aIf.intro (fun h1 => ?_) (fun h1 => ?_) <;> simp (disch := omega) only [go_sem, seval]
  · rw [checkB, if_pos (by omega)]
  rw [checkB, if_neg (by omega)]
  simp (disch := omega) only [go_sem, seval, encBs_len]
  refine awp_loopL (β := AH) l [3, 9, 10, 11] (fun don _ => [(3, .int .i64 (lastNo don)), (9, .sl (encBs l) .free), (10, .int .i64 l.length), (11, .int .i64 don.length)]) (fun jj => h ++ jj) (fun don r _ => ordB (-1) l = ordB (lastNo don) r) [] ?_ (by simp) rfl Ty.mixed (by kernel_rfl) ?_ ?_
  · simp (disch := omega) only [go_sem, seval]
    rfl
  · rintro don x r jj hd ho
    have hlen : l.length = don.length + 1 + r.length := by rw [hd]; simp; omega
    have e1 : (encBs l)[don.length]? = some (encB x) := by rw [hd]; exact encBs_get don r x
    have c1 := fun h => pright_calls Γ x h
    have Kj : ∀ j R : AH, (h ++ (j ++ R))[h.length + j.length]? = R[0]? := by intro j R; rw [hget_add, hget_zero]
    have Sj : ∀ (j R : AH) (o : AObj), (h ++ (j ++ R)).set (h.length + j.length) o = h ++ (j ++ R.set 0 o) := by intro j R o; rw [hset_add, hset_zero]
    rw [ordB] at ho
    generalize rightB x = b at *
    simp only [encB] at c1 e1
    simp (disch := omega) only [go_sem, seval]
    refine aIf.pos (by omega) ?_
    simp (disch := omega) only [go_sem, seval, e1, Kj, Sj, List.length_append]
    refine ACalls.det (c1 _) ?_
    cases b with
    | false =>
      simp (disch := omega) only [go_sem, seval]
      rw [ho]; rfl
    | true =>
    simp (disch := omega) only [go_sem, seval, Kj, Sj, List.length_append]
    refine aIf.intro (fun h2 => ?_) (fun h2 => ?_) <;> simp (disch := omega) only [go_sem, seval, Kj, Sj, List.length_append]
    · rw [ho, decide_eq_false (by omega)]; rfl
    · refine roundL_next (jj ++ [.row (encB x).cells 40]) ?_ ?_ rfl
      · rw [ho, decide_eq_true (by omega), lastNo_snoc]; rfl
      · simp (disch := omega) only [go_sem, seval, List.length_append, lastNo_snoc]
  · intro jj ho
    simp (disch := omega) only [go_sem, seval]
    refine AWP.keep [] (aCode_ok Ty.mixed _ _ _ _ (by kernel_rfl) ?_)
    simp (disch := omega) only [go_sem, seval]
    rw [ho]; rfl
def tt : Int → AV := fun _ => .bool true
theorem ite_bool (p : Prop) [Decidable p] : (if p then AV.bool true else .bool false) = .bool (decide p) := by split <;> simp_all
theorem put_tt (p : Int) (ks : List Int) (hn : ks.Nodup) : (aFind (.int .i64 p) (entsA tt 0 ks)).bind (putEnt (entsA tt 0 ks) ks.length (.int .i64 p) (.bool true)) = some (.map (entsA tt 0 (addK p ks)) (addK p ks).length) :=
  put_entsA (f := tt) (f' := tt) p ks hn fun _ _ => rfl
theorem look_tt (p : Int) (l : List Int) (i c : Nat) (K : AV → Prop) : aLkO false (.bool false) (.int .i64 p) (some (.map (entsA tt i l) c)) K = K (.bool (decide (p ∈ l))) := by
  rw [look_entsA, tt, ite_bool]
def docsF (d : List Us) : List Int := d.map fun x => x.doc
theorem usesF_snoc {l don r : List Us} {x : Us} (h : usesF [] l = usesF (metR don) (x :: r)) (hr : rightU x = true) (hx : x.doc ∉ docsF don) : usesF [] l = usesF (metR (don ++ [x])) r := by
  have hm : x.doc ∉ metR don := by simpa [metR, docsF] using hx
  rw [h, usesF, hr, decide_eq_true hm, metR_snoc]; rfl
set_option maxHeartbeats 2000000 in
set_option maxRecDepth 100000 in
theorem puses_calls (Γ : Nat → Option (List AV)) (l : List Us) (h : AH) (hl : l.length ≤ 1000000) :
    ACalls Try.prog Γ 56 [.sl (encUs l) .free] h fun v h' => h' = h ∧ v = .bool (usesF [] l) := by
  refine ACalls.drop ?_
  refine acalls_code (rs := [.tmp 2]) Try.func56 rfl rfl rfl rfl Ty.mixed (by kernel_rfl) ?_
  simp (disch := omega) only [go_sem, seval, encUs_len]
  obtain ⟨K, hK⟩ : ∃ K : List Int → AH, ∀ ks, K ks = h ++ [.map (entsA tt 0 ks) ks.length] := ⟨_, fun _ => rfl⟩
  have Kl : ∀ ks, (K ks).length = h.length + 1 := fun ks => by rw [hK]; simp
  have Km : ∀ ks (R : AH), (K ks ++ R)[h.length]? = some (.map (entsA tt 0 ks) ks.length) := fun ks R => by rw [hK]; simp
  have Ks : ∀ ks (R : AH) ks', (K ks ++ R).set h.length (.map (entsA tt 0 ks') ks'.length) = K ks' ++ R := fun ks R ks' => by rw [hK, hK]; simp [hset_zero]
  have Kj : ∀ ks (j R : AH), (K ks ++ (j ++ R))[h.length + 1 + j.length]? = R[0]? := by intro ks j R; rw [← Kl ks, hget_add, hget_zero]
  have Sj : ∀ ks (j R : AH) (o : AObj), (K ks ++ (j ++ R)).set (h.length + 1 + j.length) o = K ks ++ (j ++ R.set 0 o) := by intro ks j R o; rw [← Kl ks, hset_add, hset_zero]
  have Kh : ∀ ks (R : AH), ∃ l, K ks ++ R = h ++ l := fun ks R => ⟨_, by rw [hK, List.append_assoc]⟩
  refine awp_loopL (β := AH × List Us) l [3, 7, 8, 9] (fun don _ => [(3, .map (some h.length)), (7, .sl (encUs l) .free), (8, .int .i64 l.length), (9, .int .i64 don.length)]) (fun s => K (docsF s.2) ++ s.1) (fun don r s => s.2 = don ∧ (docsF don).Nodup ∧ usesF [] l = usesF (metR don) r) ([], []) ?_ (by simp [hK, docsF, entsA]) ⟨rfl, .nil, rfl⟩ Ty.mixed (by kernel_rfl) ?_ ?_
  · simp (disch := omega) only [go_sem, seval]
  · rintro don x r ⟨jj, don'⟩ hd ⟨h0, hn, ho⟩
    simp only at h0
    subst h0
    simp only
    have hlen : l.length = don'.length + 1 + r.length := by rw [hd]; simp; omega
    have e1 : (encUs l)[don'.length]? = some (encU x) := by rw [hd]; exact encUs_get don' r x
    have c1 := fun o h => between1 Γ 0 4095 x.doc o h
    have c2 := fun o h => between1 Γ 0 15 x.kind o h
    have c3 := fun o h => between1 Γ 0 1099511627776 x.value o h
    have c4 := fun o h => between2 Γ 0 1099511627775 x.at_ x.known o h
    have hru : rightU x = (inR x.doc 0 4095 && inR x.kind 0 15 && inR x.value 0 1099511627776 && (inR x.at_ 0 1099511627775 && inR x.known 0 1099511627775)) := by
      rw [rightU, show END - 1 = 1099511627775 from rfl, show END = 1099511627776 from rfl, Bool.and_assoc]
    have no : rightU x = false → usesF [] l = false := fun e => by rw [ho, usesF, e]; rfl
    have yes := fun (e : rightU x = true) (hx : x.doc ∉ docsF don') => usesF_snoc ho e hx
    have met : x.doc ∈ docsF don' → usesF [] l = false := fun e => by
      have hm : x.doc ∈ metR don' := by simpa [metR, docsF] using e
      rw [ho, usesF, decide_eq_false (by simpa using hm)]; simp
    have hks : docsF (don' ++ [x]) = docsF don' ++ [x.doc] := by simp [docsF]
    generalize inR x.doc 0 4095 = b1 at *
    generalize inR x.kind 0 15 = b2 at *
    generalize inR x.value 0 1099511627776 = b3 at *
    generalize (inR x.at_ 0 1099511627775 && inR x.known 0 1099511627775) = b4 at *
    simp only [encU] at e1
    simp (disch := omega) only [go_sem, seval]
    refine aIf.pos (by omega) ?_
    simp (disch := omega) only [go_sem, seval, e1, Kl, Km, Kj, Sj, look_tt, List.length_append]
    refine aIf.intro (fun hx => ?_) (fun hx => ?_) <;> simp (disch := omega) only [go_sem, seval, Kl, Km, Kj, Sj, List.length_append]
    · rw [met hx]
      exact ⟨Kh _ _, rfl⟩
    refine ACalls.det (c1 _ _) ?_
    cases b1 with
    | false => simp (disch := omega) only [go_sem, seval]; rw [no (by rw [hru]; rfl)]; exact ⟨Kh _ _, rfl⟩
    | true =>
    simp (disch := omega) only [go_sem, seval, Kl, Km, Kj, Sj, List.length_append]
    refine ACalls.det (c2 _ _) ?_
    cases b2 with
    | false => simp (disch := omega) only [go_sem, seval]; rw [no (by rw [hru]; rfl)]; exact ⟨Kh _ _, rfl⟩
    | true =>
    simp (disch := omega) only [go_sem, seval, Kl, Km, Kj, Sj, List.length_append]
    refine ACalls.det (c3 _ _) ?_
    cases b3 with
    | false => simp (disch := omega) only [go_sem, seval]; rw [no (by rw [hru]; rfl)]; exact ⟨Kh _ _, rfl⟩
    | true =>
    simp (disch := omega) only [go_sem, seval, Kl, Km, Kj, Sj, List.length_append]
    refine ACalls.det (c4 _ _) ?_
    cases b4 with
    | false => simp (disch := omega) only [go_sem, seval]; rw [no (by rw [hru]; rfl)]; exact ⟨Kh _ _, rfl⟩
    | true =>
    have hp := put_tt x.doc (docsF don') hn
    rw [show addK x.doc (docsF don') = docsF (don' ++ [x]) from by rw [addK, if_neg hx, hks]] at hp
    simp (disch := omega) only [go_sem, seval, Kl, Km, Kj, Sj, List.length_append, hp, Ks]
    refine roundL_next (jj ++ [.row (encU x).cells 42], don' ++ [x]) ⟨rfl, ?_, yes (by rw [hru]; rfl) hx⟩ ?_ ?_
    · rw [hks, List.nodup_append]; exact ⟨hn, by simp, fun a ha b hb e => by rw [List.mem_singleton] at hb; exact hx (by rw [← hb, ← e]; exact ha)⟩
    · simp (disch := omega) only [go_sem, seval, List.length_append]
    · rfl
  · rintro ⟨jj, don'⟩ ⟨h0, hn, ho⟩
    simp (disch := omega) only [go_sem, seval]
    refine AWP.keep [] (aCode_ok Ty.mixed _ _ _ _ (by kernel_rfl) ?_)
    simp (disch := omega) only [go_sem, seval]
    rw [ho]
    exact ⟨Kh _ _, rfl⟩
theorem inR_max (n : Int) : inR n 0 (4096 - 1) = inR n 0 4095 := rfl
set_option maxHeartbeats 2000000 in
set_option maxRecDepth 100000 in
theorem pexamine_calls (Γ : Nat → Option (List AV)) (lb : List Bg) (l : List Us) (h : AH) (hb : lb.length ≤ 1000000) (hl : l.length ≤ 1000000) :
    ACalls Try.prog Γ 36 [.sl (encBs lb) .free, .sl (encUs l) .free] h fun v h' => h' = h ∧ v = .int .i64 (errA lb l) := by
  have c0 := fun h => pcheck_calls Γ lb h (by omega)
  have hE : errA lb l = if checkB lb ≠ 0 then checkB lb else if 4096 < l.length then 2 else if usesF [] l then 0 else 180 := rfl
  rw [hE]
  generalize checkB lb = e at *
  refine ACalls.drop ?_
  refine acalls_code (rs := [.tmp 4]) Try.func36 rfl rfl rfl rfl Ty.mixed (by kernel_rfl) ?_
  simp (disch := omega) only [go_sem, seval]
  refine ACalls.det (c0 _) ?_
  simp (disch := omega) only [go_sem, seval, encUs_len]
  refine aIf.intro (fun g1 => ?_) (fun g1 => ?_) <;> simp (disch := omega) only [go_sem, seval, encUs_len]
  rotate_left
  · rw [if_pos g1]
  subst g1
  rw [if_neg (by simp)]
  refine aIf.intro (fun g2 => ?_) (fun g2 => ?_) <;> simp (disch := omega) only [go_sem, seval, encUs_len]
  · rw [if_pos (by omega)]
  rw [if_neg (by omega)]
  obtain ⟨K, hK⟩ : ∃ K : List Int → AH, ∀ ks, K ks = h ++ [.map (entsA tt 0 ks) ks.length] := ⟨_, fun _ => rfl⟩
  have Kl : ∀ ks, (K ks).length = h.length + 1 := fun ks => by rw [hK]; simp
  have Km : ∀ ks (R : AH), (K ks ++ R)[h.length]? = some (.map (entsA tt 0 ks) ks.length) := fun ks R => by rw [hK]; simp
  have Ks : ∀ ks (R : AH) ks', (K ks ++ R).set h.length (.map (entsA tt 0 ks') ks'.length) = K ks' ++ R := fun ks R ks' => by rw [hK, hK]; simp [hset_zero]
  have Kj : ∀ ks (j R : AH), (K ks ++ (j ++ R))[h.length + 1 + j.length]? = R[0]? := by intro ks j R; rw [← Kl ks, hget_add, hget_zero]
  have Sj : ∀ ks (j R : AH) (o : AObj), (K ks ++ (j ++ R)).set (h.length + 1 + j.length) o = K ks ++ (j ++ R.set 0 o) := by intro ks j R o; rw [← Kl ks, hset_add, hset_zero]
  have Kh : ∀ ks (R : AH), ∃ l, K ks ++ R = h ++ l := fun ks R => ⟨_, by rw [hK, List.append_assoc]⟩
  refine awp_loopL (β := AH × List Us) l [6, 18, 19, 20] (fun don _ => [(6, .map (some h.length)), (18, .sl (encUs l) .free), (19, .int .i64 l.length), (20, .int .i64 don.length)]) (fun s => K (docsF s.2) ++ s.1) (fun don r s => s.2 = don ∧ (docsF don).Nodup ∧ usesF [] l = usesF (metR don) r) ([], []) ?_ (by simp [hK, docsF, entsA]) ⟨rfl, .nil, rfl⟩ Ty.mixed (by kernel_rfl) ?_ ?_
  · simp (disch := omega) only [go_sem, seval]
  · rintro don x r ⟨jj, don'⟩ hd ⟨h0, hn, ho⟩
    simp only at h0
    subst h0
    simp only
    have hlen : l.length = don'.length + 1 + r.length := by rw [hd]; simp; omega
    have e1 : (encUs l)[don'.length]? = some (encU x) := by rw [hd]; exact encUs_get don' r x
    have c1 := fun o h => pwithin1 Γ 4096 x.doc o h
    have c2 := fun o h => pwithin1 Γ 16 x.kind o h
    have c3 := fun o h => pwithin1 Γ 1099511627777 x.value o h
    have c4 := fun o h => pwithin2 Γ 1099511627776 x.at_ x.known o h
    simp only [show (4096 - 1 : Int) = 4095 from rfl, show (16 - 1 : Int) = 15 from rfl, show (1099511627777 - 1 : Int) = 1099511627776 from rfl, show (1099511627776 - 1 : Int) = 1099511627775 from rfl] at c1 c2 c3 c4
    have hru : rightU x = (inR x.doc 0 4095 && inR x.kind 0 15 && inR x.value 0 1099511627776 && (inR x.at_ 0 1099511627775 && inR x.known 0 1099511627775)) := by
      rw [rightU, show END - 1 = 1099511627775 from rfl, show END = 1099511627776 from rfl, Bool.and_assoc]
    have no : rightU x = false → usesF [] l = false := fun e => by rw [ho, usesF, e]; rfl
    have yes := fun (e : rightU x = true) (hx : x.doc ∉ docsF don') => usesF_snoc ho e hx
    have met : x.doc ∈ docsF don' → usesF [] l = false := fun e => by
      have hm : x.doc ∈ metR don' := by simpa [metR, docsF] using e
      rw [ho, usesF, decide_eq_false (by simpa using hm)]; simp
    have hks : docsF (don' ++ [x]) = docsF don' ++ [x.doc] := by simp [docsF]
    generalize inR x.doc 0 4095 = b1 at *
    generalize inR x.kind 0 15 = b2 at *
    generalize inR x.value 0 1099511627776 = b3 at *
    generalize (inR x.at_ 0 1099511627775 && inR x.known 0 1099511627775) = b4 at *
    simp only [encU] at e1
    simp (disch := omega) only [go_sem, seval]
    refine aIf.pos (by omega) ?_
    simp (disch := omega) only [go_sem, seval, e1, Kl, Km, Kj, Sj, look_tt, List.length_append]
    refine ACalls.det (c1 _ _) ?_
    cases b1 with
    | false => simp (disch := omega) only [go_sem, seval]; rw [no (by rw [hru]; rfl)]; exact ⟨Kh _ _, rfl⟩
    | true =>
    simp (disch := omega) only [go_sem, seval, Kl, Km, Kj, Sj, List.length_append]
    refine ACalls.det (c2 _ _) ?_
    cases b2 with
    | false => simp (disch := omega) only [go_sem, seval]; rw [no (by rw [hru]; rfl)]; exact ⟨Kh _ _, rfl⟩
    | true =>
    simp (disch := omega) only [go_sem, seval, Kl, Km, Kj, Sj, List.length_append]
    refine ACalls.det (c3 _ _) ?_
    cases b3 with
    | false => simp (disch := omega) only [go_sem, seval]; rw [no (by rw [hru]; rfl)]; exact ⟨Kh _ _, rfl⟩
    | true =>
    simp (disch := omega) only [go_sem, seval, Kl, Km, Kj, Sj, List.length_append]
    refine ACalls.det (c4 _ _) ?_
    cases b4 with
    | false => simp (disch := omega) only [go_sem, seval]; rw [no (by rw [hru]; rfl)]; exact ⟨Kh _ _, rfl⟩
    | true =>
    simp (disch := omega) only [go_sem, seval, Kl, Km, Kj, Sj, look_tt, List.length_append]
    refine aIf.intro (fun hx => ?_) (fun hx => ?_) <;> simp (disch := omega) only [go_sem, seval, Kl, Km, Kj, Sj, List.length_append]
    · rw [met hx]
      exact ⟨Kh _ _, rfl⟩
    have hp := put_tt x.doc (docsF don') hn
    rw [show addK x.doc (docsF don') = docsF (don' ++ [x]) from by rw [addK, if_neg hx, hks]] at hp
    simp (disch := omega) only [go_sem, seval, Kl, Km, Kj, Sj, List.length_append, hp, Ks]
    refine roundL_next (jj ++ [.row (encU x).cells 42], don' ++ [x]) ⟨rfl, ?_, yes (by rw [hru]; rfl) hx⟩ ?_ ?_
    · rw [hks, List.nodup_append]; exact ⟨hn, by simp, fun a ha b hb e => by rw [List.mem_singleton] at hb; exact hx (by rw [← hb, ← e]; exact ha)⟩
    · simp (disch := omega) only [go_sem, seval, List.length_append]
    · rfl
  · rintro ⟨jj, don'⟩ ⟨h0, hn, ho⟩
    simp (disch := omega) only [go_sem, seval]
    refine AWP.keep [] (aCode_ok Ty.mixed _ _ _ _ (by kernel_rfl) ?_)
    simp (disch := omega) only [go_sem, seval]
    rw [ho]
    exact ⟨Kh _ _, rfl⟩
end Go.Proofs.Ytelehpccfaedjaa

/- The program's find, in, add, fine. No conditions. -/
set_option linter.unusedSimpArgs false
set_option linter.unusedVariables false
namespace Go.Proofs.Ytelehpccfaedjaa
open Go Go.Proofs Go.Abs

def bookC (b : Bg) (u : List Us) (known : Int) : List AV := [.int .i64 b.no, .int .i64 b.at_, .int .i64 b.known, .int .i64 b.kind, .int .i64 b.period, .int .i64 b.count, .int .i64 b.value, .bool b.gone, .sl (encUs u) .free, .int .i64 known]
def bookV (b : Bg) (u : List Us) (known : Int) : AV := .agg (bookC b u known)
def zB : Bg := ⟨0, 0, 0, 0, 0, 0, 0, false⟩
theorem rb_U (n : Nat) (x : Us) : RB n (encU x) := of_eq_true (by rw [encU]; simp (disch := omega) only [go_sem, seval])
theorem rb_Us (n : Nat) (l : List Us) : RB n (.sl (encUs l) .free) = True := eq_true (.sl' fun r hr => by
  obtain ⟨x, _, rfl⟩ := List.mem_map.1 hr
  exact rb_U n x)
theorem loose_Us (l : List Us) : looseL (encUs l) = encUs l := looseL_maps _ (fun _ => rfl) l
attribute [go_sem] rb_Us loose_Us
theorem encUs_nil : encUs [] = [] := rfl
set_option maxHeartbeats 1000000 in
set_option maxRecDepth 100000 in
theorem pfind_calls (Γ : Nat → Option (List AV)) (l : List Bg) (u : List Us) (no known : Int) (h : AH) (hl : l.length ≤ 1000000) :
    ACalls Try.prog Γ 37 [.sl (encBs l) .free, .sl (encUs u) .free, .int .i64 no, .int .i64 known] h fun v h' => h' = h ∧ v = .tuple [match l.find? (isNo no) with
      | some b => bookV b u known
      | none => bookV zB [] 0, .bool (l.find? (isNo no)).isSome] := by
  refine ACalls.dropL ?_
  refine acalls_code (rs := [.cell 8 72, .tmp 9]) Try.func37 rfl rfl rfl rfl Ty.mixed (by kernel_rfl) ?_
  simp (disch := omega) only [go_sem, seval, encBs_len]
  refine awp_loopL (β := AH) l [1, 2, 3, 8, 12, 13, 14] (fun don _ => [(1, .sl (encUs u) .free), (2, .int .i64 no), (3, .int .i64 known), (8, .ptr (some (h.length, 0))), (12, .sl (encBs l) .free), (13, .int .i64 l.length), (14, .int .i64 don.length)])
    (fun jj => h ++ (.row [.int .i64 0, .int .i64 0, .int .i64 0, .int .i64 0, .int .i64 0, .int .i64 0, .int .i64 0, .bool false, .sl [] .full, .int .i64 0] 72 :: jj)) (fun don r _ => ∀ y ∈ don, isNo no y = false) [] ?_ ?_ (by simp) Ty.mixed (by kernel_rfl) ?_ ?_
  · simp (disch := omega) only [go_sem, seval]
  · simp (disch := omega) only [go_sem, seval]
  · rintro don x r jj hd hs
    have hlen : l.length = don.length + 1 + r.length := by rw [hd]; simp; omega
    have e1 : (encBs l)[don.length]? = some (encB x) := by rw [hd]; exact encBs_get don r x
    have k1 : ∀ (a : AObj) (R : AH), (h ++ a :: (jj ++ R))[h.length + (jj.length + 1)]? = R[0]? := fun a R => by
      rw [hget_add, List.getElem?_cons_succ]; exact hget_zero jj R
    have k2 : ∀ (a o : AObj) (R : AH), (h ++ a :: (jj ++ R)).set (h.length + (jj.length + 1)) o = h ++ a :: (jj ++ R.set 0 o) := fun a o R => by
      rw [hset_add, List.set_cons_succ, hset_zero]
    simp only [encB] at e1
    simp (disch := omega) only [go_sem, seval]
    refine aIf.pos (by omega) ?_
    simp (disch := omega) only [go_sem, seval, e1, k1, k2, List.length_append, List.length_cons]
    have hf : isNo no x = true → l.find? (isNo no) = some x := fun e => by
      rw [hd, List.find?_append, List.find?_eq_none.2 fun y hy => by rw [hs y hy]; simp]
      simp [e]
    have nxt : isNo no x = false → ∀ y ∈ don ++ [x], isNo no y = false := fun e y hy => by
      rcases List.mem_append.1 hy with hy | hy
      · exact hs y hy
      · rw [List.mem_singleton] at hy; subst hy; exact e
    refine aIf.intro (fun h1 => ?_) (fun h1 => ?_) <;> simp (disch := omega) only [go_sem, seval, k1, k2, List.length_append, List.length_cons]
    rotate_left
    · refine roundL_next (jj ++ [.row (encB x).cells 40]) (nxt (by simp [isNo, h1])) ?_ rfl
      simp (disch := omega) only [go_sem, seval, List.length_append]
    cases hg : x.gone with
    | true =>
      simp (disch := omega) only [go_sem, seval]
      refine roundL_next (jj ++ [.row (encB x).cells 40]) (nxt (by simp [isNo, hg])) ?_ ?_
      · simp (disch := omega) only [go_sem, seval, List.length_append]
      · rw [encB, hg]; rfl
    | false =>
    simp (disch := omega) only [go_sem, seval, k1, k2, List.length_append, List.length_cons]
    rw [hf (by simp [isNo, h1, hg])]
    simp only [bookV, bookC, hg, Option.isSome_some]
  · intro jj hs
    simp (disch := omega) only [go_sem, seval]
    refine AWP.keep [8] (aCode_ok Ty.mixed _ _ _ _ (by kernel_rfl) ?_)
    simp (disch := omega) only [go_sem, seval]
    rw [List.find?_eq_none.2 fun y hy => by rw [hs y hy]; simp]
    rfl
def inV (b : Bg) (u : List Us) (known p : Int) : AV := .func 84 [] [.eptr (bookC b u known), .eptr [.int .i64 p]]
set_option maxRecDepth 100000 in
theorem in_calls (Γ : Nat → Option (List AV)) (b : Bg) (u : List Us) (known p : Int) (h : AH) :
    ACalls Try.prog Γ 47 [bookV b u known, .int .i64 p] h fun v h' => h' = h ∧ v = inV b u known p := by
  rw [inV, bookV, bookC]
  refine ACalls.dropL ?_
  refine ACalls.freeze ?_
  refine ACalls.freeze ?_
  refine acalls_code (rs := [.tmp 4]) Try.func47 rfl rfl rfl rfl Ty.mixed (by kernel_rfl) ?_
  simp (disch := omega) only [go_sem, seval]
  have e1 : ∀ a b : AObj, (h ++ [a, b])[h.length]? = some a := fun a b => by simp
  have e2 : ∀ a b : AObj, ((h ++ [a, b]).set h.length .frozen)[h.length + 1]? = some b := fun a b => by rw [List.getElem?_set_ne (by omega)]; simp
  have e4 : ∀ a b : AObj, ∃ l, ((h ++ [a, b]).set h.length .frozen).set (h.length + 1) .frozen = h ++ l := fun a b => ⟨[.frozen, .frozen], by
    have a1 : (h ++ [a, b]).set (h.length + 0) .frozen = h ++ [.frozen, b] := hset_add ..
    have a2 : (h ++ [.frozen, b]).set (h.length + 1) .frozen = h ++ [.frozen, .frozen] := hset_add ..
    rw [Nat.add_zero] at a1
    rw [a1, a2]⟩
  refine ⟨h.length, _, _, _, e1 _ _, Froze.set (e1 _ _), h.length + 1, _, _, _, e2 _ _, Froze.set (e2 _ _), e4 _ _, ?_, ?_⟩
  · simp only [fzV, fzL, if_true, List.drop_zero]
    rw [if_neg (by omega)]
    simp only [fzV, fzL, if_true, List.drop_zero, loose, looseL, loose_Us]
    refine .func (RBs.nil _) (RBs.cons (.eptr ?_) (RBs.cons (.eptr ?_) (RBs.nil _)))
    · show RBs _ _
      simp (disch := omega) only [go_sem, seval]
    · show RBs _ _
      simp (disch := omega) only [go_sem, seval]
  · simp only [fzV, fzL, if_true, List.drop_zero]
    rw [if_neg (by omega)]
    simp only [fzV, fzL, if_true, List.drop_zero, loose, looseL, loose_Us]
/-- **What the iterator yields, and to whom.** The heap is what whoever consumes makes of what has been yielded, and rubbish behind it. -/
def YieldsU (Γ : Nat → Option (List AV)) (L : Nat) (f : FuncId) (cs : List AV) (enc : Us → AV) (us : List Us) : Prop :=
  ∀ (hp : List Us → AH) (n0 : Nat), (∀ don, (hp don).length = n0) →
    (∀ don x jj, (∃ r, us = don ++ x :: r) → AYield Try.prog Γ L [enc x] (hp don ++ jj) fun v h' => v = .bool true ∧ ∃ jj', h' = hp (don ++ [x]) ++ jj') →
    ACalls Try.prog Γ f ([.yield L] ++ cs) (hp [] ++ []) fun _ h' => ∃ jj, h' = hp us ++ jj
theorem filter_split {α : Type} (P : α → Bool) (don r : List α) (x : α) (h : P x = true) : ∃ r', (don ++ x :: r).filter P = don.filter P ++ x :: r' := ⟨r.filter P, by rw [List.filter_append, List.filter_cons_of_pos h]⟩
set_option maxHeartbeats 2000000 in
set_option maxRecDepth 100000 in
theorem in1_calls (Γ : Nat → Option (List AV)) (L : Nat) (b : Bg) (u : List Us) (known p : Int) (hb : rightB b = true) (hu : ∀ x ∈ u, rightU x = true) (hl : u.length ≤ 1000000) :
    YieldsU Γ L 84 [.eptr (bookC b u known), .eptr [.int .i64 p]] encU (u.filter (inP b known p)) := by
  intro hp n0 hn HY
  have hpd := rightB_period hb
  have hkd : -1 ≤ b.kind := by simp only [rightB, inR, Bool.and_eq_true, decide_eq_true_eq] at hb; omega
  rw [bookC]
  refine acalls_code (rs := []) Try.func84 rfl rfl rfl rfl Ty.mixed (by kernel_rfl) ?_
  simp (disch := omega) only [go_sem, seval]
  refine awp_loopL (β := AH × List Us) u [0, 1, 2, 8, 9, 10] (fun don _ => [(0, .yield L), (1, .eptr (bookC b u known)), (2, .eptr [.int .i64 p]), (8, .sl (encUs u) .free), (9, .int .i64 u.length), (10, .int .i64 don.length)])
    (fun s => hp (s.2.filter (inP b known p)) ++ s.1) (fun don _ s => s.2 = don) ([], []) ?_ ?_ rfl Ty.mixed (by kernel_rfl) ?_ ?_
  · simp (disch := omega) only [go_sem, seval, encUs_len, bookC]
  · simp
  · rintro don x r ⟨jj, don'⟩ hd h0
    simp only at h0
    subst h0
    simp only
    have hlen : u.length = don'.length + 1 + r.length := by rw [hd]; simp; omega
    have e1 : (encUs u)[don'.length]? = some (encU x) := by rw [hd]; exact encUs_get don' r x
    have hx := rightU_facts (hu x (by rw [hd]; simp))
    obtain ⟨r1, r2, r3⟩ := div_facts (p := b.period) (show 0 ≤ x.at_ by omega) hpd.1
    have hPx : inP b known p x = ((decide (x.known ≤ known) && (decide (b.kind = -1) || decide (b.kind = x.kind))) && decide (x.at_ / b.period = p)) := rfl
    have hnx : inP b known p x = false → (don' ++ [x]).filter (inP b known p) = don'.filter (inP b known p) := fun e => by
      rw [List.filter_append, List.filter_cons_of_neg (by rw [e]; simp), List.filter_nil, List.append_nil]
    have hys : inP b known p x = true → (don' ++ [x]).filter (inP b known p) = don'.filter (inP b known p) ++ [x] := fun e => by
      rw [List.filter_append, List.filter_cons_of_pos e, List.filter_nil]
    have hY := fun (e : inP b known p x = true) jj => HY (don'.filter (inP b known p)) x jj (by obtain ⟨r', e'⟩ := filter_split (inP b known p) don' r x e; exact ⟨r', by rw [hd, e']⟩)
    have k1 : ∀ (D : List Us) (R : AH), (hp D ++ (jj ++ R))[n0 + jj.length]? = R[0]? := fun D R => by rw [← hn D, hget_add, hget_zero]
    have k2 : ∀ (D : List Us) (R : AH) (o : AObj), (hp D ++ (jj ++ R)).set (n0 + jj.length) o = hp D ++ (jj ++ R.set 0 o) := fun D R o => by rw [← hn D, hset_add, hset_zero]
    simp only [encU] at e1 hY
    simp (disch := omega) only [go_sem, seval]
    refine aIf.pos (by omega) ?_
    simp (disch := omega) only [go_sem, seval, e1, hn, k1, k2, List.length_append, bookC]
    have fin : ∀ (bb : Bool), inP b known p x = bb → True := fun _ _ => trivial
    refine aIf.intro (fun h1 => ?_) (fun h1 => ?_) <;> simp (disch := omega) only [go_sem, seval, k1, k2, hn, List.length_append]
    rotate_left
    · refine roundL_next (jj ++ [.row (encU x).cells 42], don' ++ [x]) rfl ?_ ?_
      · simp (disch := omega) only [go_sem, seval, List.length_append, bookC]
      · rw [hnx (by rw [hPx, decide_eq_false h1]; rfl)]; rfl
    refine aIf.intro (fun h2 => ?_) (fun h2 => ?_) <;> simp (disch := omega) only [go_sem, seval, k1, k2, hn, List.length_append]
    · refine ⟨by omega, ?_⟩
      rw [r1]
      refine aIf.intro (fun h3 => ?_) (fun h3 => ?_) <;> simp (disch := omega) only [go_sem, seval, k1, k2, hn, List.length_append]
      · refine AYield.mono (hY (by rw [hPx, decide_eq_true h1, decide_eq_true (show b.kind = -1 by omega), decide_eq_true h3]; rfl) _) ?_
        rintro _ _ ⟨rfl, jj', rfl⟩
        simp (disch := omega) only [go_sem, seval]
        refine roundL_next (jj', don' ++ [x]) rfl ?_ ?_
        · simp (disch := omega) only [go_sem, seval, List.length_append, bookC]
        · rw [hys (by rw [hPx, decide_eq_true h1, decide_eq_true (show b.kind = -1 by omega), decide_eq_true h3]; rfl)]
      · refine roundL_next (jj ++ [.row (encU x).cells 42], don' ++ [x]) rfl ?_ ?_
        · simp (disch := omega) only [go_sem, seval, List.length_append, bookC]
        · rw [hnx (by rw [hPx, decide_eq_false h3]; simp)]; rfl
    refine aIf.intro (fun h4 => ?_) (fun h4 => ?_) <;> simp (disch := omega) only [go_sem, seval, k1, k2, hn, List.length_append]
    · refine ⟨by omega, ?_⟩
      rw [r1]
      refine aIf.intro (fun h3 => ?_) (fun h3 => ?_) <;> simp (disch := omega) only [go_sem, seval, k1, k2, hn, List.length_append]
      · refine AYield.mono (hY (by rw [hPx, decide_eq_true h1, decide_eq_true h4, decide_eq_true h3]; simp) _) ?_
        rintro _ _ ⟨rfl, jj', rfl⟩
        simp (disch := omega) only [go_sem, seval]
        refine roundL_next (jj', don' ++ [x]) rfl ?_ ?_
        · simp (disch := omega) only [go_sem, seval, List.length_append, bookC]
        · rw [hys (by rw [hPx, decide_eq_true h1, decide_eq_true h4, decide_eq_true h3]; simp)]
      · refine roundL_next (jj ++ [.row (encU x).cells 42], don' ++ [x]) rfl ?_ ?_
        · simp (disch := omega) only [go_sem, seval, List.length_append, bookC]
        · rw [hnx (by rw [hPx, decide_eq_false h3]; simp)]; rfl
    · refine roundL_next (jj ++ [.row (encU x).cells 42], don' ++ [x]) rfl ?_ ?_
      · simp (disch := omega) only [go_sem, seval, List.length_append, bookC]
      · rw [hnx (by rw [hPx, decide_eq_false h4, decide_eq_false (show ¬ b.kind = -1 by omega)]; simp)]; rfl
  · rintro ⟨jj, don'⟩ h0
    simp only at h0
    subst h0
    simp (disch := omega) only [go_sem, seval]
end Go.Proofs.Ytelehpccfaedjaa
