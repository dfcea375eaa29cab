/- Texts joined: AccA, AccB, AccC, AccD, AccE, AccF, AccG, AccH. No conditions. -/
import Derived.Test.YtelehpccfaedjaaMrCA
import Derived.Test.YtelehpccfaedjaaMrG
/- The reference's smaller functions on budgets and uses. No conditions. -/
set_option linter.unusedSimpArgs false
set_option linter.unusedVariables false
namespace Go.Proofs.Ytelehpccfaedjaa
open Go Go.Proofs Go.Abs

set_option maxRecDepth 100000 in
theorem rwithin_calls (Γ : Nat → Option (List AV)) (n a b : Int) (h : AH) :
    ACalls Try.prog Γ 108 [.int .i64 n, .int .i64 a, .int .i64 b] h fun v h' => h' = h ∧ v = .bool (inR n a b) := by
  refine ACalls.drop ?_
  refine acalls_code (rs := [.tmp 6]) Try.func108 rfl rfl rfl rfl Ty.mixed (by kernel_rfl) ?_
  simp (disch := omega) only [go_sem, seval]
  refine aIf.intro (fun h1 => ?_) (fun h1 => ?_) <;> simp (disch := omega) only [go_sem, seval]
  · simp [inR, h1]
  · simp [inR, h1]
set_option maxRecDepth 100000 in
theorem rkind_calls (Γ : Nat → Option (List AV)) (n : Int) (h : AH) :
    ACalls Try.prog Γ 109 [.int .i64 n] h fun v h' => h' = h ∧ v = .bool (decide (0 ≤ n) && decide (n < 16)) := by
  refine ACalls.drop ?_
  refine acalls_code (rs := [.tmp 2]) Try.func109 rfl rfl rfl rfl Ty.mixed (by kernel_rfl) ?_
  simp (disch := omega) only [go_sem, seval]
  refine aIf.intro (fun h1 => ?_) (fun h1 => ?_) <;> simp (disch := omega) only [go_sem, seval]
  · simp [h1]
  · simp [h1]
set_option maxRecDepth 100000 in
theorem rmoment_calls (Γ : Nat → Option (List AV)) (n : Int) (h : AH) :
    ACalls Try.prog Γ 110 [.int .i64 n] h fun v h' => h' = h ∧ v = .bool (timeF n) := by
  refine ACalls.drop ?_
  refine acalls_code (rs := [.tmp 2]) Try.func110 rfl rfl rfl rfl Ty.mixed (by kernel_rfl) ?_
  simp (disch := omega) only [go_sem, seval]
  refine aIf.intro (fun h1 => ?_) (fun h1 => ?_) <;> simp (disch := omega) only [go_sem, seval]
  · rw [timeF, decide_eq_true h1]; rfl
  · rw [timeF, decide_eq_false h1]; rfl
set_option maxRecDepth 100000 in
theorem rtime_calls (Γ : Nat → Option (List AV)) (n : Int) (h : AH) :
    ACalls Try.prog Γ 41 [.int .i64 n] h fun v h' => h' = h ∧ v = .bool (timeF n) := by
  refine ACalls.drop ?_
  refine acalls_code (rs := [.tmp 2]) Try.func41 rfl rfl rfl rfl Ty.mixed (by kernel_rfl) ?_
  simp (disch := omega) only [go_sem, seval]
  refine aIf.intro (fun h1 => ?_) (fun h1 => ?_) <;> simp (disch := omega) only [go_sem, seval]
  · rw [timeF, decide_eq_true h1]; rfl
  · rw [timeF, decide_eq_false h1]; rfl
set_option maxRecDepth 100000 in
theorem rcounts_calls (Γ : Nat → Option (List AV)) (x : Bg) (at_ known : Int) (h : AH) :
    ACalls Try.prog Γ 156 [encB x, .int .i64 at_, .int .i64 known] h fun v h' => h' = h ∧ v = .bool (cntB at_ known x) := by
  rw [encB]
  refine ACalls.drop ?_
  refine acalls_code (rs := [.tmp 6]) Try.func156 rfl rfl rfl rfl Ty.mixed (by kernel_rfl) ?_
  simp (disch := omega) only [go_sem, seval]
  refine aIf.intro (fun h1 => ?_) (fun h1 => ?_) <;> simp (disch := omega) only [go_sem, seval]
  · simp [cntB, h1]
  · simp [cntB, h1]
set_option maxRecDepth 100000 in
theorem rof_calls (Γ : Nat → Option (List AV)) (b : Bg) (x : Us) (known : Int) (h : AH) :
    ACalls Try.prog Γ 50 [encB b, encU x, .int .i64 known] h fun v h' => h' = h ∧ v = .bool (ofF b known x) := by
  rw [encB, encU]
  refine ACalls.drop ?_
  refine acalls_code (rs := [.tmp 6]) Try.func50 rfl rfl rfl rfl Ty.mixed (by kernel_rfl) ?_
  simp (disch := omega) only [go_sem, seval]
  refine aIf.intro (fun h1 => ?_) (fun h1 => ?_) <;> simp (disch := omega) only [go_sem, seval]
  rotate_left
  · simp [ofF, h1]
  refine aIf.intro (fun h2 => ?_) (fun h2 => ?_) <;> simp (disch := omega) only [go_sem, seval]
  · simp [ofF, h1, h2]
  · simp [ofF, h1, h2]
end Go.Proofs.Ytelehpccfaedjaa

/- The reference's Right. No conditions. -/
set_option linter.unusedSimpArgs false
set_option linter.unusedVariables false
namespace Go.Proofs.Ytelehpccfaedjaa
open Go Go.Proofs Go.Abs

theorem timeF_in (n : Int) : inR n 0 (END - 1) = timeF n := by
  rw [inR, timeF]
  congr 1
  rw [decide_eq_decide]; omega
set_option maxRecDepth 100000 in
theorem rright_calls (Γ : Nat → Option (List AV)) (x : Bg) (h : AH) :
    ACalls Try.prog Γ 107 [encB x] h fun v h' => h' = h ∧ v = .bool (rightB x) := by
  obtain ⟨no, at_, known, kind, period, count, value, gone⟩ := x
  have c1 := fun h => rwithin_calls Γ no 0 1048576 h
  have c2 := fun h => rmoment_calls Γ at_ h
  have c3 := fun h => rmoment_calls Γ known h
  have c4 := fun h => rwithin_calls Γ kind (-1) 15 h
  have c5 := fun h => rwithin_calls Γ period 1 1099511627776 h
  have c6 := fun h => rwithin_calls Γ count 0 1048576 h
  have c7 := fun h => rwithin_calls Γ value 0 1099511627776 h
  have e0 : ∀ n, inR n 0 0 = decide (n = 0) := fun n => by
    rw [inR, ← Bool.decide_and, decide_eq_decide]; omega
  simp only [encB, rightB]
  rw [timeF_in, timeF_in]
  simp only [e0, show END = 1099511627776 from rfl]
  generalize inR no 0 1048576 = b1 at *
  generalize timeF at_ = b2 at *
  generalize timeF known = b3 at *
  generalize inR kind (-1) 15 = b4 at *
  generalize inR period 1 1099511627776 = b5 at *
  generalize inR count 0 1048576 = b6 at *
  generalize inR value 0 1099511627776 = b7 at *
  refine ACalls.drop ?_
  refine acalls_code (rs := [.tmp 2]) Try.func107 rfl rfl rfl rfl Ty.mixed (by kernel_rfl) ?_
  simp (disch := omega) only [go_sem, seval]
  refine ACalls.det (c1 _) ?_
  simp (disch := omega) only [go_sem, seval]
  cases b1 with
  | false => simp (disch := omega) only [go_sem, seval]
  | true =>
  simp (disch := omega) only [go_sem, seval]
  refine ACalls.det (c2 _) ?_
  simp (disch := omega) only [go_sem, seval]
  cases b2 with
  | false => simp (disch := omega) only [go_sem, seval]
  | true =>
  simp (disch := omega) only [go_sem, seval]
  refine ACalls.det (c3 _) ?_
  simp (disch := omega) only [go_sem, seval]
  cases b3 with
  | false => simp (disch := omega) only [go_sem, seval]
  | true =>
  simp (disch := omega) only [go_sem, seval]
  refine ACalls.det (c4 _) ?_
  simp (disch := omega) only [go_sem, seval]
  cases b4 with
  | false => simp (disch := omega) only [go_sem, seval]
  | true =>
  simp (disch := omega) only [go_sem, seval]
  refine ACalls.det (c5 _) ?_
  simp (disch := omega) only [go_sem, seval]
  cases b5 with
  | false => simp (disch := omega) only [go_sem, seval]
  | true =>
  simp (disch := omega) only [go_sem, seval]
  cases gone with
  | true =>
    simp (disch := omega) only [go_sem, seval]
    refine aIf.intro (fun h1 => ?_) (fun h1 => ?_) <;> simp (disch := omega) only [go_sem, seval]
    · simp [h1]
    · simp [h1]
  | false =>
    simp (disch := omega) only [go_sem, seval]
    refine ACalls.det (c6 _) ?_
    simp (disch := omega) only [go_sem, seval]
    cases b6 with
    | false => simp (disch := omega) only [go_sem, seval]
    | true =>
    simp (disch := omega) only [go_sem, seval]
    refine ACalls.det (c7 _) ?_
    simp (disch := omega) only [go_sem, seval]
end Go.Proofs.Ytelehpccfaedjaa

/- The reference's Check of budgets. No conditions. -/
set_option linter.unusedSimpArgs false
set_option linter.unusedVariables false
namespace Go.Proofs.Ytelehpccfaedjaa
open Go Go.Proofs Go.Abs

def lastNo (l : List Bg) : Int := (l.getLast?.map fun x => x.no).getD (-1)
theorem lastNo_snoc (d : List Bg) (y : Bg) : lastNo (d ++ [y]) = y.no := by simp [lastNo]
theorem encBs_len (l : List Bg) : (encBs l).length = l.length := by simp [encBs]
theorem encBs_get (a r : List Bg) (x : Bg) : (encBs (a ++ x :: r))[a.length]? = some (encB x) := by simp [encBs]
set_option maxRecDepth 100000 in
theorem rcheck18_calls (Γ : Nat → Option (List AV)) (l : List Bg) (h : AH) (hl : l.length ≤ 9223372036854775807) :
    ACalls Try.prog Γ 77 [.sl (encBs l) .free] h fun v h' => h' = h ∧ v = .int .i64 (checkB l) := by
  refine ACalls.drop ?_
  refine acalls_code (rs := [.tmp 2]) Try.func77 rfl rfl rfl rfl Ty.mixed (by kernel_rfl) ?_
  simp (disch := omega) only [go_sem, seval, encBs_len]
  refine aIf.intro (fun h1 => ?_) (fun h1 => ?_) <;> simp (disch := omega) only [go_sem, seval]
  · rw [checkB, if_pos (by omega)]
  rw [checkB, if_neg (by omega)]
  refine awp_loopL (β := Unit) l [0, 3] (fun don _ => [(0, .sl (encBs l) .free), (3, .int .i64 don.length)]) (fun _ => h) (fun don r _ => ordB (-1) l = ordB (lastNo don) r) () ?_ rfl rfl Ty.mixed (by kernel_rfl) ?_ ?_
  · simp (disch := omega) only [go_sem, seval]
  · rintro don x r _ hd ho
    have hlen : l.length = don.length + 1 + r.length := by rw [hd]; simp; omega
    have e1 : (encBs l)[don.length]? = some (encB x) := by rw [hd]; exact encBs_get don r x
    have c1 := fun h => rright_calls Γ x h
    rw [ordB] at ho
    simp only [encB] at c1 e1
    simp (disch := omega) only [go_sem, seval, encBs_len]
    refine aIf.pos (by omega) ?_
    simp (disch := omega) only [go_sem, seval, e1]
    refine aCallF.intro (fun _ => c1 _) ?_
    simp (disch := omega) only [go_sem, seval]
    cases hr : rightB x with
    | false =>
      simp (disch := omega) only [go_sem, seval]
      rw [ho, hr]; rfl
    | true =>
    have hx0 : -1 < x.no := by
      simp only [rightB, inR, Bool.and_eq_true, decide_eq_true_eq] at hr
      omega
    simp (disch := omega) only [go_sem, seval]
    rcases List.eq_nil_or_concat don with rfl | ⟨d, y, rfl⟩
    · simp (disch := omega) only [go_sem, seval, List.length_nil]
      refine roundL_next () ?_ ?_ rfl
      · rw [ho, hr, show lastNo [] = -1 from rfl, decide_eq_true hx0]; rfl
      · simp (disch := omega) only [go_sem, seval, List.length_append]
    · rw [List.concat_eq_append] at *
      have e3 : (encBs l)[d.length]? = some (encB y) := by rw [hd, List.append_assoc]; exact encBs_get d _ y
      have hdl : (d ++ [y]).length = d.length + 1 := by simp
      rw [lastNo_snoc] at ho
      simp only [encB] at e3
      rw [hdl] at e1 ⊢
      refine aIf.pos (by omega) ?_
      have e4 : ((d.length : Int) + 1).toNat = d.length + 1 := by omega
      simp (disch := omega) only [go_sem, seval, e1, e3]
      refine ⟨by omega, ?_⟩
      simp (disch := omega) only [go_sem, seval, e4, e1]
      refine aIf.intro (fun h2 => ?_) (fun h2 => ?_) <;> simp (disch := omega) only [go_sem, seval]
      · rw [ho, hr, decide_eq_false (by omega)]; rfl
      · refine roundL_next () ?_ ?_ rfl
        · rw [ho, hr, lastNo_snoc, decide_eq_true (by omega)]; rfl
        · simp (disch := omega) only [go_sem, seval, List.length_append]
  · intro _ ho
    simp (disch := omega) only [go_sem, seval, encBs_len]
    refine AWP.keep [] (aCode_ok Ty.mixed _ _ _ _ (by kernel_rfl) ?_)
    simp (disch := omega) only [go_sem, seval]
    rw [ho]; rfl
end Go.Proofs.Ytelehpccfaedjaa

/- The reference's Find. No conditions. -/
set_option linter.unusedSimpArgs false
set_option linter.unusedVariables false
namespace Go.Proofs.Ytelehpccfaedjaa
open Go Go.Proofs Go.Abs

def isNo (no : Int) (x : Bg) : Bool := decide (x.no = no) && !x.gone
/-- The place of the first element about which something is true. -/
def bidx (p : Bg → Bool) : List Bg → Option Nat
  | [] => none
  | x :: r => if p x = true then some 0 else (bidx p r).map (· + 1)
def bidI (o : Option Nat) : Int := match o with
  | some k => k
  | none => -1
theorem bidx_at (p : Bg → Bool) : ∀ (a : List Bg) (x : Bg) (r : List Bg), (∀ y ∈ a, p y = false) → p x = true → bidx p (a ++ x :: r) = some a.length
  | [], x, r, _, hx => by simp [bidx, hx]
  | y :: a, x, r, ha, hx => by
    rw [List.cons_append, bidx, if_neg (by rw [ha y (by simp)]; simp), bidx_at p a x r (fun z hz => ha z (by simp [hz])) hx]; rfl
theorem bidx_no (p : Bg → Bool) : ∀ (a : List Bg), (∀ y ∈ a, p y = false) → bidx p a = none
  | [], _ => rfl
  | y :: a, ha => by rw [bidx, if_neg (by rw [ha y (by simp)]; simp), bidx_no p a (fun z hz => ha z (by simp [hz]))]; rfl
set_option maxRecDepth 100000 in
theorem rfind_calls (Γ : Nat → Option (List AV)) (l : List Bg) (no : Int) (h : AH) (hl : l.length ≤ 9223372036854775807) :
    ACalls Try.prog Γ 25 [.sl (encBs l) .free, .int .i64 no] h fun v h' => h' = h ∧ v = .int .i64 (bidI (bidx (isNo no) l)) := by
  refine ACalls.drop ?_
  refine acalls_code (rs := [.tmp 4]) Try.func25 rfl rfl rfl rfl Ty.mixed (by kernel_rfl) ?_
  simp (disch := omega) only [go_sem, seval]
  refine awp_loopL (β := Unit) l [0, 1, 5] (fun don _ => [(0, .sl (encBs l) .free), (1, .int .i64 no), (5, .int .i64 don.length)]) (fun _ => h) (fun don _ _ => ∀ y ∈ don, isNo no y = false) () ?_ rfl (by simp) Ty.mixed (by kernel_rfl) ?_ ?_
  · simp (disch := omega) only [go_sem, seval]
  · rintro don x r _ hd hs
    have hlen : l.length = don.length + 1 + r.length := by rw [hd]; simp; omega
    have e1 : (encBs l)[don.length]? = some (encB x) := by rw [hd]; exact encBs_get don r x
    simp only [encB] at e1
    have yes : isNo no x = true → bidI (bidx (isNo no) l) = don.length := fun e => by rw [hd, bidx_at _ don x r hs e]; rfl
    have nxt : isNo no x = false → ∀ y ∈ don ++ [x], isNo no y = false := fun e y hy => by
      rcases List.mem_append.1 hy with hy | hy
      · exact hs y hy
      · rw [List.mem_singleton] at hy; subst hy; exact e
    simp (disch := omega) only [go_sem, seval, encBs_len]
    refine aIf.pos (by omega) ?_
    simp (disch := omega) only [go_sem, seval, e1]
    refine aIf.intro (fun h1 => ?_) (fun h1 => ?_) <;> simp (disch := omega) only [go_sem, seval, e1]
    · cases hg : x.gone with
      | true =>
        simp (disch := omega) only [go_sem, seval]
        refine roundL_next () (nxt (by simp [isNo, hg])) ?_ rfl
        simp (disch := omega) only [go_sem, seval, List.length_append]
      | false =>
        simp (disch := omega) only [go_sem, seval]
        rw [yes (by simp [isNo, hg, h1])]
    · refine roundL_next () (nxt (by simp [isNo, h1])) ?_ rfl
      simp (disch := omega) only [go_sem, seval, List.length_append]
  · intro _ hs
    simp (disch := omega) only [go_sem, seval, encBs_len]
    refine AWP.keep [] (aCode_ok Ty.mixed _ _ _ _ (by kernel_rfl) ?_)
    simp (disch := omega) only [go_sem, seval]
    rw [bidx_no _ l hs]; rfl
end Go.Proofs.Ytelehpccfaedjaa

/- The reference's Uses and Error. No conditions. -/
set_option linter.unusedSimpArgs false
set_option linter.unusedVariables false
namespace Go.Proofs.Ytelehpccfaedjaa
open Go Go.Proofs Go.Abs

def metR (don : List Us) : List Int := (don.map fun x => x.doc).reverse
theorem metR_snoc (d : List Us) (x : Us) : metR (d ++ [x]) = x.doc :: metR d := by simp [metR]
theorem mem_metR (d : List Us) (n : Int) : n ∈ metR d ↔ ∃ y ∈ d, y.doc = n := by simp [metR]
theorem encUs_len (l : List Us) : (encUs l).length = l.length := by simp [encUs]
theorem encUs_get (a r : List Us) (x : Us) : (encUs (a ++ x :: r))[a.length]? = some (encU x) := by simp [encUs]
theorem kind_in (n : Int) : inR n 0 15 = (decide (0 ≤ n) && decide (n < 16)) := by
  rw [inR]
  congr 1
  rw [decide_eq_decide]; omega
set_option maxHeartbeats 1000000 in
set_option maxRecDepth 100000 in
theorem ruses_calls (Γ : Nat → Option (List AV)) (l : List Us) (h : AH) (hl : l.length ≤ 1000000) :
    ACalls Try.prog Γ 78 [.sl (encUs l) .free] h fun v h' => h' = h ∧ v = .bool (usesF [] l) := by
  refine ACalls.drop ?_
  refine acalls_code (rs := [.tmp 2]) Try.func78 rfl rfl rfl rfl Ty.mixed (by kernel_rfl) ?_
  simp (disch := omega) only [go_sem, seval]
  refine awp_loopL (β := Unit) l [0, 3] (fun don _ => [(0, .sl (encUs l) .free), (3, .int .i64 don.length)]) (fun _ => h) (fun don r _ => usesF [] l = usesF (metR don) r) () ?_ rfl rfl Ty.mixed (by kernel_rfl) ?_ ?_
  · simp (disch := omega) only [go_sem, seval]
  · rintro don x r _ hd ho
    have hlen : l.length = don.length + 1 + r.length := by rw [hd]; simp; omega
    have e1 : (encUs l)[don.length]? = some (encU x) := by rw [hd]; exact encUs_get don r x
    have c1 := fun h => rwithin_calls Γ x.doc 0 4095 h
    have c2 := fun h => rkind_calls Γ x.kind h
    have c3 := fun h => rwithin_calls Γ x.value 0 1099511627776 h
    have c4 := fun h => rmoment_calls Γ x.at_ h
    have c5 := fun h => rmoment_calls Γ x.known h
    have hru : rightU x = (inR x.doc 0 4095 && inR x.kind 0 15 && inR x.value 0 1099511627776 && timeF x.at_ && timeF x.known) := by rw [rightU, timeF_in, timeF_in]; rfl
    rw [kind_in] at hru
    rw [usesF] at ho
    generalize inR x.doc 0 4095 = b1 at *
    generalize (decide (0 ≤ x.kind) && decide (x.kind < 16)) = b2 at *
    generalize inR x.value 0 1099511627776 = b3 at *
    generalize timeF x.at_ = b4 at *
    generalize timeF x.known = b5 at *
    simp only [encU] at e1
    simp (disch := omega) only [go_sem, seval, encUs_len]
    refine aIf.pos (by omega) ?_
    simp (disch := omega) only [go_sem, seval, e1]
    refine ACalls.det (c1 _) ?_
    cases b1 with
    | false => simp (disch := omega) only [go_sem, seval]; rw [ho, hru]; rfl
    | true =>
    simp (disch := omega) only [go_sem, seval, e1]
    refine ACalls.det (c2 _) ?_
    cases b2 with
    | false => simp (disch := omega) only [go_sem, seval]; rw [ho, hru]; rfl
    | true =>
    simp (disch := omega) only [go_sem, seval, e1]
    refine ACalls.det (c3 _) ?_
    cases b3 with
    | false => simp (disch := omega) only [go_sem, seval]; rw [ho, hru]; rfl
    | true =>
    simp (disch := omega) only [go_sem, seval, e1]
    refine ACalls.det (c4 _) ?_
    cases b4 with
    | false => simp (disch := omega) only [go_sem, seval]; rw [ho, hru]; rfl
    | true =>
    simp (disch := omega) only [go_sem, seval, e1]
    refine ACalls.det (c5 _) ?_
    cases b5 with
    | false => simp (disch := omega) only [go_sem, seval]; rw [ho, hru]; rfl
    | true =>
    have hr1 : rightU x = true := by rw [hru]; rfl
    simp (disch := omega) only [go_sem, seval]
    refine awp_loopL (β := Unit) don [0, 3, 4] (fun d2 _ => [(0, .sl (encUs l) .free), (3, .int .i64 don.length), (4, .int .i64 d2.length)]) (fun _ => h) (fun d2 _ _ => ∀ y ∈ d2, y.doc ≠ x.doc) () ?_ rfl (by simp) Ty.mixed (by kernel_rfl) ?_ ?_
    · simp (disch := omega) only [go_sem, seval]
    · rintro d2 y r2 _ hd2 hno
      have hlen2 : don.length = d2.length + 1 + r2.length := by rw [hd2]; simp; omega
      have e2 : (encUs l)[d2.length]? = some (encU y) := by rw [hd, hd2, List.append_assoc]; exact encUs_get d2 _ y
      simp only [encU] at e2
      simp (disch := omega) only [go_sem, seval]
      refine aIf.pos (by omega) ?_
      simp (disch := omega) only [go_sem, seval, e1, e2]
      refine aIf.intro (fun h1 => ?_) (fun h1 => ?_) <;> simp (disch := omega) only [go_sem, seval]
      · rw [ho, decide_eq_false (by rw [Decidable.not_not, mem_metR, hd2]; exact ⟨y, by simp, h1⟩)]; simp
      · refine roundL_next () ?_ ?_ rfl
        · intro z hz
          rcases List.mem_append.1 hz with hz | hz
          · exact hno z hz
          · rw [List.mem_singleton] at hz; subst hz; exact h1
        · simp (disch := omega) only [go_sem, seval, List.length_append]
    · intro _ hno
      simp (disch := omega) only [go_sem, seval]
      refine AWP.keep [0, 3] (aCode_ok Ty.mixed _ _ _ _ (by kernel_rfl) ?_)
      simp (disch := omega) only [go_sem, seval]
      refine roundL_next () ?_ ?_ rfl
      · rw [ho, hr1, metR_snoc, decide_eq_true (by rw [mem_metR]; exact fun ⟨y, hy, e⟩ => hno y hy e)]; rfl
      · simp (disch := omega) only [go_sem, seval, List.length_append]
  · intro _ ho
    simp (disch := omega) only [go_sem, seval, encUs_len]
    refine AWP.keep [] (aCode_ok Ty.mixed _ _ _ _ (by kernel_rfl) ?_)
    simp (disch := omega) only [go_sem, seval]
    rw [ho]; rfl
set_option maxRecDepth 100000 in
theorem rerror_calls (Γ : Nat → Option (List AV)) (l : List Bg) (u : List Us) (h : AH) (hl : l.length ≤ 1000000) (hu : u.length ≤ 1000000) :
    ACalls Try.prog Γ 40 [.sl (encBs l) .free, .sl (encUs u) .free] h fun v h' => h' = h ∧ v = .int .i64 (errA l u) := by
  have c1 := fun h => rcheck18_calls Γ l h (by omega)
  have c2 := fun h => ruses_calls Γ u h hu
  have hE : errA l u = if checkB l ≠ 0 then checkB l else if 4096 < u.length then 2 else if usesF [] u then 0 else 180 := rfl
  rw [hE]
  generalize checkB l = e at *
  generalize usesF [] u = b at *
  refine ACalls.drop ?_
  refine acalls_code (rs := [.tmp 4]) Try.func40 rfl rfl rfl rfl Ty.mixed (by kernel_rfl) ?_
  simp (disch := omega) only [go_sem, seval]
  refine ACalls.det (c1 _) ?_
  simp (disch := omega) only [go_sem, seval]
  refine aIf.intro (fun h1 => ?_) (fun h1 => ?_) <;> simp (disch := omega) only [go_sem, seval, encUs_len]
  rotate_left
  · rw [if_pos h1]
  subst h1
  rw [if_neg (by simp)]
  refine aIf.intro (fun h2 => ?_) (fun h2 => ?_) <;> simp (disch := omega) only [go_sem, seval]
  · rw [if_pos (by omega)]
  rw [if_neg (by omega)]
  refine ACalls.det (c2 _) ?_
  cases b <;> simp (disch := omega) only [go_sem, seval]
end Go.Proofs.Ytelehpccfaedjaa

/- The reference's stands, standing, Standing. No conditions. -/
set_option linter.unusedSimpArgs false
set_option linter.unusedVariables false
namespace Go.Proofs.Ytelehpccfaedjaa
open Go Go.Proofs Go.Abs

def laterB (x : Bg) (at_ known : Int) (y : Bg) : Bool := decide (y.kind = x.kind) && decide (y.period = x.period) && cntB at_ known y && (decide (x.at_ < y.at_) || (decide (y.at_ = x.at_) && decide (x.no < y.no)))
theorem newest_eq (l : List Bg) (a n : Int) (x : Bg) : newest l a n x = l.all fun y => !laterB x a n y := rfl
set_option maxHeartbeats 1000000 in
set_option maxRecDepth 100000 in
theorem rstands_calls (Γ : Nat → Option (List AV)) (p : List Bg) (x : Bg) (q l : List Bg) (at_ known : Int) (h : AH) (hpq : l = p ++ x :: q) (hl : l.length ≤ 1000000) :
    ACalls Try.prog Γ 139 [.sl (encBs l) .free, .int .i64 p.length, .int .i64 at_, .int .i64 known] h fun v h' => h' = h ∧ v = .bool (standsF l at_ known x) := by
  have e0 : (encBs l)[p.length]? = some (encB x) := by rw [hpq]; exact encBs_get p q x
  have hpl : p.length < l.length := by rw [hpq]; simp
  have c1 := fun h => rcounts_calls Γ x at_ known h
  have hS : standsF l at_ known x = (!x.gone && cntB at_ known x && newest l at_ known x) := rfl
  rw [hS, newest_eq]
  generalize cntB at_ known x = b1 at *
  simp only [encB] at e0 c1
  refine ACalls.drop ?_
  refine acalls_code (rs := [.tmp 8]) Try.func139 rfl rfl rfl rfl Ty.mixed (by kernel_rfl) ?_
  simp (disch := omega) only [go_sem, seval, encBs_len, e0]
  cases hg : x.gone with
  | true => simp (disch := omega) only [go_sem, seval]
  | false =>
  rw [hg] at c1
  simp (disch := omega) only [go_sem, seval]
  refine ACalls.det (c1 _) ?_
  cases b1 with
  | false => simp (disch := omega) only [go_sem, seval]
  | true =>
  simp (disch := omega) only [go_sem, seval]
  obtain ⟨K, hK⟩ : ∃ K : AH, K = h ++ [.row (encB x).cells 40] := ⟨_, rfl⟩
  have hx0 : (encB x).cells = [.int .i64 x.no, .int .i64 x.at_, .int .i64 x.known, .int .i64 x.kind, .int .i64 x.period, .int .i64 x.count, .int .i64 x.value, .bool false] := by rw [encB, hg]; rfl
  rw [hx0] at hK
  have Kx : ∀ R : AH, (K ++ R)[h.length]? = some (.row [.int .i64 x.no, .int .i64 x.at_, .int .i64 x.known, .int .i64 x.kind, .int .i64 x.period, .int .i64 x.count, .int .i64 x.value, .bool false] 40) := fun R => by rw [hK]; simp
  have Kl : K.length = h.length + 1 := by rw [hK]; simp
  have Kh : ∀ m : AH, ∃ l, K ++ m = h ++ l := fun m => ⟨_, by rw [hK, List.append_assoc]⟩
  have Kj : ∀ j R : AH, (K ++ (j ++ R))[h.length + 1 + j.length]? = R[0]? := by intro j R; rw [← Kl, hget_add, hget_zero]
  have Sj : ∀ (j R : AH) (o : AObj), (K ++ (j ++ R)).set (h.length + 1 + j.length) o = K ++ (j ++ R.set 0 o) := by intro j R o; rw [← Kl, hset_add, hset_zero]
  refine awp_loopL (β := AH) l [0, 2, 3, 9, 10] (fun don _ => [(0, .sl (encBs l) .free), (2, .int .i64 at_), (3, .int .i64 known), (9, .ptr (some (h.length, 0))), (10, .int .i64 don.length)]) (fun jj => K ++ jj) (fun don _ _ => ∀ y ∈ don, laterB x at_ known y = false) [] ?_ (by rw [hK]; simp) (by simp) Ty.mixed (by kernel_rfl) ?_ ?_
  · simp (disch := omega) only [go_sem, seval]
  · rintro don y r jj hd hs
    have hlen : l.length = don.length + 1 + r.length := by rw [hd]; simp; omega
    have e1 : (encBs l)[don.length]? = some (encB y) := by rw [hd]; exact encBs_get don r y
    have c2 := fun h => rcounts_calls Γ y at_ known h
    have yes : laterB x at_ known y = true → (l.all fun y => !laterB x at_ known y) = false := fun e => by
      rw [List.all_eq_false]; exact ⟨y, by rw [hd]; simp, by simp [e]⟩
    have nxt : laterB x at_ known y = false → ∀ z ∈ don ++ [y], laterB x at_ known z = false := fun e z hz => by
      rcases List.mem_append.1 hz with hz | hz
      · exact hs z hz
      · rw [List.mem_singleton] at hz; subst hz; exact e
    have hL : laterB x at_ known y = (decide (y.kind = x.kind) && decide (y.period = x.period) && cntB at_ known y && (decide (x.at_ < y.at_) || (decide (y.at_ = x.at_) && decide (x.no < y.no)))) := rfl
    simp only [encB] at e1 c2
    generalize cntB at_ known y = b2 at *
    simp (disch := omega) only [go_sem, seval, encBs_len]
    refine aIf.pos (by omega) ?_
    simp (disch := omega) only [go_sem, seval, e1, Kx, Kl, Kj, Sj, List.length_append]
    refine aIf.intro (fun h1 => ?_) (fun h1 => ?_) <;> simp (disch := omega) only [go_sem, seval, Kx, Kl, Kj, Sj, List.length_append]
    rotate_left
    · refine roundL_next (jj ++ [.row (encB y).cells 40]) (nxt (by rw [hL, decide_eq_false h1]; rfl)) ?_ rfl
      simp (disch := omega) only [go_sem, seval, List.length_append]
    refine aIf.intro (fun h2 => ?_) (fun h2 => ?_) <;> simp (disch := omega) only [go_sem, seval, Kx, Kl, Kj, Sj, List.length_append]
    rotate_left
    · refine roundL_next (jj ++ [.row (encB y).cells 40]) (nxt (by rw [hL, decide_eq_false h2]; simp)) ?_ rfl
      simp (disch := omega) only [go_sem, seval, List.length_append]
    refine ACalls.det (c2 _) ?_
    cases b2 with
    | false =>
      simp (disch := omega) only [go_sem, seval]
      refine roundL_next (jj ++ [.row (encB y).cells 40]) (nxt (by rw [hL]; simp)) ?_ rfl
      simp (disch := omega) only [go_sem, seval, List.length_append]
    | true =>
    simp (disch := omega) only [go_sem, seval, Kx, Kl, Kj, Sj, List.length_append]
    refine aIf.intro (fun h3 => ?_) (fun h3 => ?_) <;> simp (disch := omega) only [go_sem, seval, Kx, Kl, Kj, Sj, List.length_append]
    · rw [yes (by rw [hL, decide_eq_true h1, decide_eq_true h2, decide_eq_true h3]; rfl)]
      exact ⟨Kh _, rfl⟩
    refine aIf.intro (fun h4 => ?_) (fun h4 => ?_) <;> simp (disch := omega) only [go_sem, seval, Kx, Kl, Kj, Sj, List.length_append]
    rotate_left
    · refine roundL_next (jj ++ [.row (encB y).cells 40]) (nxt (by rw [hL, decide_eq_false h3, decide_eq_false h4]; simp)) ?_ rfl
      simp (disch := omega) only [go_sem, seval, List.length_append]
    refine aIf.intro (fun h5 => ?_) (fun h5 => ?_) <;> simp (disch := omega) only [go_sem, seval, Kx, Kl, Kj, Sj, List.length_append]
    · rw [yes (by rw [hL, decide_eq_true h1, decide_eq_true h2, decide_eq_true h4, decide_eq_true h5]; simp)]
      exact ⟨Kh _, rfl⟩
    · refine roundL_next (jj ++ [.row (encB y).cells 40]) (nxt (by rw [hL, decide_eq_false h3, decide_eq_false h5]; simp)) ?_ rfl
      simp (disch := omega) only [go_sem, seval, List.length_append]
  · intro jj hs
    simp (disch := omega) only [go_sem, seval, encBs_len]
    refine AWP.keep [] (aCode_ok Ty.mixed _ _ _ _ (by kernel_rfl) ?_)
    simp (disch := omega) only [go_sem, seval]
    refine ⟨⟨.row (encB x).cells 40 :: jj, by rw [hK, hx0]; simp⟩, ?_⟩
    rw [List.all_eq_true.2 fun y hy => by rw [hs y hy]; rfl]
structure BsS where
  l : List Bg
  own : Abs.Own
  j : AH
theorem rowsOK_B (l : List Bg) : RowsOK 8 (encBs l) := fun r hr => by
  obtain ⟨x, _, rfl⟩ := List.mem_map.1 hr
  refine ⟨rfl, fun c hc => ?_⟩
  simp only [encB, AV.cells, List.mem_cons, List.not_mem_nil, or_false] at hc
  rcases hc with rfl | rfl | rfl | rfl | rfl | rfl | rfl | rfl <;> rfl
theorem rb_B (n : Nat) (x : Bg) : RB n (encB x) := of_eq_true (by rw [encB]; simp (disch := omega) only [go_sem, seval])
theorem rb_Bs (n : Nat) (l : List Bg) : RB n (.sl (encBs l) .free) := .sl' fun r hr => by
  obtain ⟨x, _, rfl⟩ := List.mem_map.1 hr
  exact rb_B n x
theorem loose_Bs (l : List Bg) : looseL (encBs l) = encBs l := looseL_maps _ (fun _ => rfl) l
theorem encBs_snoc (l : List Bg) (x : Bg) : encBs l ++ [encB x] = encBs (l ++ [x]) := by simp [encBs]
theorem encBs_app (l m : List Bg) : encBs (l ++ m) = encBs l ++ encBs m := by simp [encBs]
theorem encBs_nil : encBs [] = [] := rfl
set_option maxRecDepth 100000 in
theorem rstanding_calls (Γ : Nat → Option (List AV)) (l : List Bg) (k at_ known : Int) (h : AH) (hl : l.length ≤ 1000000) :
    ACalls Try.prog Γ 114 [.sl (encBs l) .free, .int .i64 k, .int .i64 at_, .int .i64 known] h fun v h' => h' = h ∧ v = .sl (encBs (standF l k at_ known)) .free := by
  refine ACalls.dropL ?_
  refine acalls_code (rs := [.tmp 8]) Try.func114 rfl rfl rfl rfl Ty.mixed (by kernel_rfl) ?_
  simp (disch := omega) only [go_sem, seval]
  refine awp_loopL (β := BsS) l [0, 1, 2, 3, 9, 10] (fun don s => [(0, .sl (encBs l) .free), (1, .int .i64 k), (2, .int .i64 at_), (3, .int .i64 known), (9, .sl (encBs s.l) s.own), (10, .int .i64 don.length)])
    (fun s => h ++ s.j) (fun don _ s => OwnAt h s.j s.l.length s.own ∧ s.l = don.filter fun x => forK k x && standsF l at_ known x) ⟨[], .full, []⟩ ?_ (by simp) ⟨trivial, rfl⟩ Ty.mixed (by kernel_rfl) ?_ ?_
  · simp (disch := omega) only [go_sem, seval, encBs_nil]
  · rintro don x r ⟨m, own, j⟩ hd ⟨ho, hm⟩
    simp only at ho hm ⊢
    have hlen : l.length = don.length + 1 + r.length := by rw [hd]; simp; omega
    have hml : m.length ≤ don.length := by rw [hm]; exact List.length_filter_le _ _
    have e1 : (encBs l)[don.length]? = some (encB x) := by rw [hd]; exact encBs_get don r x
    have c1 := fun h => rstands_calls Γ don x r l at_ known h hd hl
    have hf : forK k x = (decide (x.kind = -1) || decide (x.kind = k)) := rfl
    have no : (forK k x && standsF l at_ known x) = false → m = (don ++ [x]).filter fun x => forK k x && standsF l at_ known x := fun e => by
      rw [hm, List.filter_append, List.filter_cons_of_neg (by rw [e]; simp), List.filter_nil, List.append_nil]
    have yes : (forK k x && standsF l at_ known x) = true → m ++ [x] = (don ++ [x]).filter fun x => forK k x && standsF l at_ known x := fun e => by
      rw [hm, List.filter_append, List.filter_cons_of_pos (p := fun x => forK k x && standsF l at_ known x) e, List.filter_nil]
    generalize standsF l at_ known x = b at *
    have hB := encB x
    simp only [encB] at e1
    have key : ∀ {σ : Tm}, True := fun {_} => trivial
    simp (disch := omega) only [go_sem, seval, encBs_len]
    refine aIf.pos (by omega) ?_
    simp (disch := omega) only [go_sem, seval, e1]
    have fin : forK k x = true → ∀ b', b' = b → True := fun _ _ _ => trivial
    refine aIf.intro (fun h1 => ?_) (fun h1 => ?_) <;> simp (disch := omega) only [go_sem, seval, e1]
    · have hfk : forK k x = true := by rw [hf, decide_eq_true h1]; rfl
      refine ACalls.det (c1 _) ?_
      cases b with
      | false =>
        simp (disch := omega) only [go_sem, seval]
        refine roundL_next ⟨m, own, j⟩ ⟨ho, no (by rw [hfk]; rfl)⟩ ?_ rfl
        simp (disch := omega) only [go_sem, seval, List.length_append]
      | true =>
        simp (disch := omega) only [go_sem, seval, e1]
        refine aAp_sl (by rw [encBs_len]; exact ho) (rowsOK_B _) (rowsOK_B [x]) (by simp [encBs_len]; omega) (by simp [encBs_len]; omega) fun j' own' ho2 hg => ?_
        simp (disch := omega) only [go_sem, seval]
        refine roundL_next ⟨m ++ [x], own', j'⟩ ⟨by simpa [encBs_len] using ho2, yes (by rw [hfk]; rfl)⟩ ?_ rfl
        simp (disch := omega) only [go_sem, seval, List.length_append, encBs_app]
        rfl
    refine aIf.intro (fun h2 => ?_) (fun h2 => ?_) <;> simp (disch := omega) only [go_sem, seval, e1]
    · have hfk : forK k x = true := by rw [hf, decide_eq_true h2, Bool.or_true]
      refine ACalls.det (c1 _) ?_
      cases b with
      | false =>
        simp (disch := omega) only [go_sem, seval]
        refine roundL_next ⟨m, own, j⟩ ⟨ho, no (by rw [hfk]; rfl)⟩ ?_ rfl
        simp (disch := omega) only [go_sem, seval, List.length_append]
      | true =>
        simp (disch := omega) only [go_sem, seval, e1]
        refine aAp_sl (by rw [encBs_len]; exact ho) (rowsOK_B _) (rowsOK_B [x]) (by simp [encBs_len]; omega) (by simp [encBs_len]; omega) fun j' own' ho2 hg => ?_
        simp (disch := omega) only [go_sem, seval]
        refine roundL_next ⟨m ++ [x], own', j'⟩ ⟨by simpa [encBs_len] using ho2, yes (by rw [hfk]; rfl)⟩ ?_ rfl
        simp (disch := omega) only [go_sem, seval, List.length_append, encBs_app]
        rfl
    · refine roundL_next ⟨m, own, j⟩ ⟨ho, no (by rw [hf, decide_eq_false h1, decide_eq_false h2]; rfl)⟩ ?_ rfl
      simp (disch := omega) only [go_sem, seval, List.length_append]
  · rintro ⟨m, own, j⟩ ⟨ho, hm⟩
    simp only at hm
    simp (disch := omega) only [go_sem, seval, encBs_len]
    refine AWP.keep [9] (aCode_ok Ty.mixed _ _ _ _ (by kernel_rfl) ?_)
    simp (disch := omega) only [go_sem, seval, loose_Bs]
    rw [hm]
    exact ⟨rb_Bs _ _, rfl⟩
def standR (l : List Bg) (k at_ known : Int) : List Bg × Int := if checkB l ≠ 0 then ([], checkB l) else if inR k 0 15 && timeF at_ && timeF known then (standF l k at_ known, 0) else ([], 1)
set_option maxRecDepth 100000 in
theorem rStanding_calls (Γ : Nat → Option (List AV)) (l : List Bg) (k at_ known : Int) (h : AH) (hl : l.length ≤ 1000000) :
    ACalls Try.prog Γ 82 [.sl (encBs l) .free, .int .i64 k, .int .i64 at_, .int .i64 known] h fun v h' => h' = h ∧ v = .tuple [.sl (encBs (standR l k at_ known).1) .free, .int .i64 (standR l k at_ known).2] := by
  have c1 := fun h => rcheck18_calls Γ l h (by omega)
  have c2 := fun h => rkind_calls Γ k h
  have c3 := fun h => rmoment_calls Γ at_ h
  have c4 := fun h => rmoment_calls Γ known h
  have c5 := fun h => rstanding_calls Γ l k at_ known h hl
  have hS : standR l k at_ known = if checkB l ≠ 0 then ([], checkB l) else if inR k 0 15 && timeF at_ && timeF known then (standF l k at_ known, 0) else ([], 1) := rfl
  rw [kind_in] at hS
  rw [hS]
  generalize checkB l = e at *
  generalize (decide (0 ≤ k) && decide (k < 16)) = b1 at *
  generalize timeF at_ = b2 at *
  generalize timeF known = b3 at *
  refine ACalls.dropL ?_
  refine acalls_code (rs := [.tmp 8, .tmp 9]) Try.func82 rfl rfl rfl rfl Ty.mixed (by kernel_rfl) ?_
  simp (disch := omega) only [go_sem, seval]
  refine ACalls.det (c1 _) ?_
  simp (disch := omega) only [go_sem, seval]
  refine aIf.intro (fun h1 => ?_) (fun h1 => ?_) <;> simp (disch := omega) only [go_sem, seval, loose_Bs, encBs_nil]
  rotate_left
  · rw [if_pos h1]
    exact rfl
  subst h1
  rw [if_neg (by simp)]
  refine ACalls.det (c2 _) ?_
  cases b1 with
  | false => simp (disch := omega) only [go_sem, seval]; rfl
  | true =>
  simp (disch := omega) only [go_sem, seval]
  refine ACalls.det (c3 _) ?_
  cases b2 with
  | false => simp (disch := omega) only [go_sem, seval]; rfl
  | true =>
  simp (disch := omega) only [go_sem, seval]
  refine ACalls.det (c4 _) ?_
  cases b3 with
  | false => simp (disch := omega) only [go_sem, seval]; rfl
  | true =>
  simp (disch := omega) only [go_sem, seval]
  refine ACalls.det (c5 _) ?_
  simp (disch := omega) only [go_sem, seval, loose_Bs]
  exact rb_Bs _ _
set_option maxRecDepth 100000 in
theorem rhas_calls (Γ : Nat → Option (List AV)) (l : List Bg) (no : Int) (h : AH) (hl : l.length ≤ 1000000) :
    ACalls Try.prog Γ 83 [.sl (encBs l) .free, .int .i64 no] h fun v h' => h' = h ∧ v = .bool (hasF l no) := by
  refine ACalls.drop ?_
  refine acalls_code (rs := [.tmp 4]) Try.func83 rfl rfl rfl rfl Ty.mixed (by kernel_rfl) ?_
  simp (disch := omega) only [go_sem, seval]
  refine awp_loopL (β := Unit) l [0, 1, 5] (fun don _ => [(0, .sl (encBs l) .free), (1, .int .i64 no), (5, .int .i64 don.length)]) (fun _ => h) (fun don _ _ => ∀ y ∈ don, y.no ≠ no) () ?_ rfl (by simp) Ty.mixed (by kernel_rfl) ?_ ?_
  · simp (disch := omega) only [go_sem, seval]
  · rintro don x r _ hd hs
    have hlen : l.length = don.length + 1 + r.length := by rw [hd]; simp; omega
    have e1 : (encBs l)[don.length]? = some (encB x) := by rw [hd]; exact encBs_get don r x
    simp only [encB] at e1
    simp (disch := omega) only [go_sem, seval, encBs_len]
    refine aIf.pos (by omega) ?_
    simp (disch := omega) only [go_sem, seval, e1]
    refine aIf.intro (fun h1 => ?_) (fun h1 => ?_) <;> simp (disch := omega) only [go_sem, seval, e1]
    · rw [hasF, List.any_eq_true.2 ⟨x, by rw [hd]; simp, decide_eq_true h1⟩]
    · refine roundL_next () ?_ ?_ rfl
      · intro y hy
        rcases List.mem_append.1 hy with hy | hy
        · exact hs y hy
        · rw [List.mem_singleton] at hy; subst hy; exact h1
      · simp (disch := omega) only [go_sem, seval, List.length_append]
  · intro _ hs
    simp (disch := omega) only [go_sem, seval, encBs_len]
    refine AWP.keep [] (aCode_ok Ty.mixed _ _ _ _ (by kernel_rfl) ?_)
    simp (disch := omega) only [go_sem, seval]
    rw [hasF, List.any_eq_false.2 fun y hy => by simpa using hs y hy]
end Go.Proofs.Ytelehpccfaedjaa

/- The reference's spent, tooMuch, Spent, over, Over. No conditions. -/
set_option linter.unusedSimpArgs false
set_option linter.unusedVariables false
namespace Go.Proofs.Ytelehpccfaedjaa
open Go Go.Proofs Go.Abs

theorem div_facts {a p : Int} (ha : 0 ≤ a) (hp : 1 ≤ p) : a.tdiv p = a / p ∧ 0 ≤ a / p ∧ a / p ≤ a := by
  refine ⟨Int.tdiv_eq_ediv_of_nonneg ha, Int.ediv_nonneg ha (by omega), ?_⟩
  exact Int.ediv_le_self _ ha
theorem rightB_period {b : Bg} (h : rightB b = true) : 1 ≤ b.period ∧ b.period ≤ 1099511627776 := by
  simp only [rightB, inR, show END = 1099511627776 from rfl, Bool.and_eq_true, decide_eq_true_eq] at h
  omega
theorem rightU_facts {x : Us} (h : rightU x = true) : 0 ≤ x.doc ∧ x.doc ≤ 4095 ∧ 0 ≤ x.kind ∧ x.kind ≤ 15 ∧ 0 ≤ x.value ∧ x.value ≤ 1099511627776 ∧ 0 ≤ x.at_ ∧ x.at_ ≤ 1099511627775 ∧ 0 ≤ x.known ∧ x.known ≤ 1099511627775 := by
  simp only [rightU, inR, show END = 1099511627776 from rfl, Bool.and_eq_true, decide_eq_true_eq] at h
  omega
theorem timeF_facts {t : Int} (h : timeF t = true) : 0 ≤ t ∧ t ≤ 1099511627775 := by
  simp only [timeF, show END = 1099511627776 from rfl, Bool.and_eq_true, decide_eq_true_eq] at h
  omega
theorem sum_facts {p : Us → Bool} {l : List Us} (h : ∀ x ∈ l, rightU x = true) : 0 ≤ (sumP p l).1 ∧ (sumP p l).1 ≤ l.length ∧ 0 ≤ (sumP p l).2 ∧ (sumP p l).2 ≤ 1099511627776 * l.length := by
  have h1 := sumP_nonneg (p := p) (l := l) fun x hx => by have := rightU_facts (h x hx); omega
  have h2 := sumP_bound (p := p) (B := 1099511627776) (by omega) (l := l) fun x hx => by have := rightU_facts (h x hx); omega
  omega
set_option maxHeartbeats 1000000 in
set_option maxRecDepth 100000 in
theorem rspent_calls (Γ : Nat → Option (List AV)) (b : Bg) (u : List Us) (at_ known : Int) (h : AH) (hb : rightB b = true) (hu : ∀ x ∈ u, rightU x = true) (hl : u.length ≤ 100000) (ha : timeF at_ = true) :
    ACalls Try.prog Γ 42 [encB b, .sl (encUs u) .free, .int .i64 at_, .int .i64 known] h fun v h' => h' = h ∧ v = .tuple [.int .i64 (spentF b u at_ known).1, .int .i64 (spentF b u at_ known).2] := by
  have hp := rightB_period hb
  have hat := timeF_facts ha
  obtain ⟨q1, q2, q3⟩ := div_facts hat.1 hp.1
  have c0 := fun x h => rof_calls Γ b x known h
  simp only [encB] at c0 ⊢
  refine ACalls.drop ?_
  refine acalls_code (rs := [.tmp 8, .tmp 9]) Try.func42 rfl rfl rfl rfl Ty.mixed (by kernel_rfl) ?_
  simp (disch := omega) only [go_sem, seval]
  obtain ⟨P, hP⟩ : ∃ P : Us → Bool, P = fun x => inP b known (at_ / b.period) x && decide (x.at_ ≤ at_) := ⟨_, rfl⟩
  have hS : spentF b u at_ known = sumP P u := by rw [hP]; rfl
  rw [hS]
  refine awp_loopL (β := Int × Int) u [1, 2, 3, 4, 10, 11, 12] (fun don s => [(1, .sl (encUs u) .free), (2, .int .i64 at_), (3, .int .i64 known), (4, .ptr (some (h.length, 0))), (10, .int .i64 s.1), (11, .int .i64 s.2), (12, .int .i64 don.length)])
    (fun _ => h ++ [.row [.int .i64 b.no, .int .i64 b.at_, .int .i64 b.known, .int .i64 b.kind, .int .i64 b.period, .int .i64 b.count, .int .i64 b.value, .bool b.gone] 40]) (fun don _ s => s = sumP P don) (0, 0) ?_ rfl rfl Ty.mixed (by kernel_rfl) ?_ ?_
  · simp (disch := omega) only [go_sem, seval]
  · rintro don x r s hd hs
    have hlen : u.length = don.length + 1 + r.length := by rw [hd]; simp; omega
    have e1 : (encUs u)[don.length]? = some (encU x) := by rw [hd]; exact encUs_get don r x
    have hx := rightU_facts (hu x (by rw [hd]; simp))
    have hsum := sum_facts (p := P) (l := don) fun y hy => hu y (by rw [hd]; simp [hy])
    rw [← hs] at hsum
    obtain ⟨s1, s2⟩ := s
    simp only at hsum hs ⊢
    obtain ⟨r1, r2, r3⟩ := div_facts (p := b.period) (show 0 ≤ x.at_ by omega) hp.1
    have c1 := fun h => c0 x h
    have hPx : P x = ((ofF b known x && decide (x.at_ / b.period = at_ / b.period)) && decide (x.at_ ≤ at_)) := by rw [hP]; rfl
    have yes : P x = true → ((s1 + 1, s2 + x.value) : Int × Int) = sumP P (don ++ [x]) := fun e => by rw [sumP_snoc, if_pos e, ← hs]
    have no : P x = false → ((s1, s2) : Int × Int) = sumP P (don ++ [x]) := fun e => by rw [sumP_snoc, if_neg (by rw [e]; simp), ← hs]
    generalize ofF b known x = bb at *
    simp only [encU] at e1 c1
    simp (disch := omega) only [go_sem, seval, encUs_len]
    refine aIf.pos (by omega) ?_
    simp (disch := omega) only [go_sem, seval, e1]
    refine aCallF.intro (fun _ => c1 _) ?_
    cases bb with
    | false =>
      simp (disch := omega) only [go_sem, seval]
      refine roundL_next (s1, s2) (no (by rw [hPx]; simp)) ?_ rfl
      simp (disch := omega) only [go_sem, seval, List.length_append]
    | true =>
    simp (disch := omega) only [go_sem, seval, e1]
    refine aIf.intro (fun h1 => ?_) (fun h1 => ?_) <;> simp (disch := omega) only [go_sem, seval, e1]
    rotate_left
    · refine roundL_next (s1, s2) (no (by rw [hPx, decide_eq_false h1]; simp)) ?_ rfl
      simp (disch := omega) only [go_sem, seval, List.length_append]
    refine ⟨by omega, by omega, ?_⟩
    rw [q1, r1]
    refine aIf.intro (fun h2 => ?_) (fun h2 => ?_) <;> simp (disch := omega) only [go_sem, seval, e1]
    rotate_left
    · refine roundL_next (s1, s2) (no (by rw [hPx, decide_eq_false h2]; simp)) ?_ rfl
      simp (disch := omega) only [go_sem, seval, List.length_append]
    refine roundL_next (s1 + 1, s2 + x.value) (yes (by rw [hPx, decide_eq_true h1, decide_eq_true h2]; rfl)) ?_ rfl
    simp (disch := omega) only [go_sem, seval, List.length_append]
  · rintro ⟨s1, s2⟩ hs
    simp (disch := omega) only [go_sem, seval, encUs_len]
    refine AWP.keep [10, 11] (aCode_ok Ty.mixed _ _ _ _ (by kernel_rfl) ?_)
    simp (disch := omega) only [go_sem, seval]
    rw [← hs]
set_option maxRecDepth 100000 in
theorem rtooMuch_calls (Γ : Nat → Option (List AV)) (b : Bg) (u : List Us) (at_ known : Int) (h : AH) (hb : rightB b = true) (hu : ∀ x ∈ u, rightU x = true) (hl : u.length ≤ 100000) (ha : timeF at_ = true) :
    ACalls Try.prog Γ 52 [encB b, .sl (encUs u) .free, .int .i64 at_, .int .i64 known] h fun v h' => h' = h ∧ v = .bool (!fineF b (spentF b u at_ known)) := by
  have c0 := fun h => rspent_calls Γ b u at_ known h hb hu hl ha
  rw [fineF]
  generalize spentF b u at_ known = s at *
  obtain ⟨s1, s2⟩ := s
  simp only [encB] at c0 ⊢
  refine ACalls.drop ?_
  refine acalls_code (rs := [.tmp 8]) Try.func52 rfl rfl rfl rfl Ty.mixed (by kernel_rfl) ?_
  simp (disch := omega) only [go_sem, seval]
  refine ACalls.det (c0 _) ?_
  simp (disch := omega) only [go_sem, seval]
  refine aIf.intro (fun h1 => ?_) (fun h1 => ?_) <;> simp (disch := omega) only [go_sem, seval]
  · congr 1; rw [Bool.eq_iff_iff]; simp; omega
  · congr 1; rw [Bool.eq_iff_iff]; simp; omega
theorem check0 {l : List Bg} (h : checkB l = 0) : (∀ b ∈ l, rightB b = true) ∧ l.Pairwise fun x y => x.no < y.no := by
  rw [checkB] at h
  split at h
  · cases h
  split at h
  · rename_i h4 h5
    obtain ⟨k1, k2, k3⟩ := ordB_lt l (-1) h5
    exact ⟨k3, k1⟩
  · cases h
theorem err0 {l : List Bg} {u : List Us} (h : errA l u = 0) : checkB l = 0 ∧ l.length ≤ 4096 ∧ u.length ≤ 4096 ∧ (∀ b ∈ l, rightB b = true) ∧ (l.Pairwise fun x y => x.no < y.no) ∧ usesF [] u = true ∧ ∀ x ∈ u, rightU x = true := by
  rw [errA] at h
  split at h
  · omega
  rename_i hc
  have hc : checkB l = 0 := by omega
  split at h
  · cases h
  split at h
  · rename_i h2 h3
    have hc0 := hc
    rw [checkB] at hc
    split at hc
    · cases hc
    split at hc
    · rename_i h4 h5
      obtain ⟨k1, k2, k3⟩ := ordB_lt l (-1) h5
      exact ⟨hc0, by omega, by omega, k3, k1, h3, ((usesF_iff u []).1 h3).1⟩
    · cases hc
  · cases h
theorem bidx_find (p : Bg → Bool) : ∀ l : List Bg, (bidx p l = none ∧ l.find? p = none) ∨ ∃ a x r, l = a ++ x :: r ∧ bidx p l = some a.length ∧ l.find? p = some x
  | [] => .inl ⟨rfl, rfl⟩
  | y :: l => by
    by_cases hy : p y = true
    · exact .inr ⟨[], y, l, rfl, by simp [bidx, hy], by simp [hy]⟩
    · rcases bidx_find p l with ⟨h1, h2⟩ | ⟨a, x, r, h1, h2, h3⟩
      · exact .inl ⟨by simp [bidx, hy, h1], by simp [hy]; simpa using h2⟩
      · exact .inr ⟨y :: a, x, r, by simp [h1], by simp [bidx, hy, h2], by rw [List.find?_cons_of_neg (by simpa using hy), h3]⟩
theorem findF_eq (l : List Bg) (no : Int) : findF l no = l.find? (isNo no) := rfl
set_option maxHeartbeats 1000000 in
set_option maxRecDepth 100000 in
theorem rSpent_calls (Γ : Nat → Option (List AV)) (l : List Bg) (u : List Us) (no at_ known : Int) (h : AH) (hl : l.length ≤ 100000) (hu : u.length ≤ 100000) :
    ACalls Try.prog Γ 16 [.sl (encBs l) .free, .sl (encUs u) .free, .int .i64 no, .int .i64 at_, .int .i64 known] h fun v h' => h' = h ∧ v = .tuple [.int .i64 (spentR l u no at_ known).1, .int .i64 (spentR l u no at_ known).2.1, .int .i64 (spentR l u no at_ known).2.2] := by
  have c1 := fun h => rerror_calls Γ l u h (by omega) (by omega)
  have c2 := fun h => rfind_calls Γ l no h (by omega)
  have c3 := fun h => rtime_calls Γ at_ h
  have c4 := fun h => rtime_calls Γ known h
  rw [spentR]
  refine ACalls.drop ?_
  refine acalls_code (rs := [.tmp 10, .tmp 11, .tmp 12]) Try.func16 rfl rfl rfl rfl Ty.mixed (by kernel_rfl) ?_
  simp (disch := omega) only [go_sem, seval]
  refine ACalls.det (c1 _) ?_
  simp (disch := omega) only [go_sem, seval]
  refine aIf.intro (fun h1 => ?_) (fun h1 => ?_) <;> simp (disch := omega) only [go_sem, seval]
  rotate_left
  · rw [if_pos h1]
  rw [if_neg (by simpa using h1)]
  obtain ⟨k1, k2, k3, k4, k5, k6, k7⟩ := err0 h1
  refine ACalls.det (c2 _) ?_
  rw [findF_eq]
  rcases bidx_find (isNo no) l with ⟨f1, f2⟩ | ⟨a, x, r, f0, f1, f2⟩
  · rw [f1, f2]
    simp (disch := omega) only [go_sem, seval, bidI]
  rw [f1, f2]
  have e1 : (encBs l)[a.length]? = some (encB x) := by rw [f0]; exact encBs_get a r x
  have hal : a.length < l.length := by rw [f0]; simp
  have c5 := fun ha h => rspent_calls Γ x u at_ known h (k4 x (by rw [f0]; simp)) k7 (by omega) ha
  simp only [encB] at e1 c5
  simp (disch := omega) only [go_sem, seval, bidI]
  refine aIf.neg (by omega) ?_
  simp (disch := omega) only [go_sem, seval]
  refine ACalls.det (c3 _) ?_
  cases ha : timeF at_ with
  | false => simp (disch := omega) only [go_sem, seval]
  | true =>
  simp (disch := omega) only [go_sem, seval]
  refine ACalls.det (c4 _) ?_
  cases hk : timeF known with
  | false => simp (disch := omega) only [go_sem, seval]
  | true =>
  simp (disch := omega) only [go_sem, seval, e1]
  refine ACalls.det (c5 ha _) ?_
  simp (disch := omega) only [go_sem, seval]
set_option maxHeartbeats 1000000 in
set_option maxRecDepth 100000 in
theorem rover_calls (Γ : Nat → Option (List AV)) (l : List Bg) (b : Bg) (u : List Us) (known : Int) (h : AH) (he : errA l u = 0) (hb : b ∈ l) (hk : timeF known = true) :
    ACalls Try.prog Γ 46 [.sl (encBs l) .free, encB b, .sl (encUs u) .free, .int .i64 known] h fun v h' => h' = h ∧ v = .bool (overB l u known b) := by
  obtain ⟨k1, k2, k3, k4, k5, k6, k7⟩ := err0 he
  have hrb := k4 b hb
  have c0 := fun at_ ha h => rtooMuch_calls Γ b u at_ known h hrb k7 (by omega) ha
  simp only [encB] at c0 ⊢
  refine ACalls.drop ?_
  refine acalls_code (rs := [.tmp 8]) Try.func46 rfl rfl rfl rfl Ty.mixed (by kernel_rfl) ?_
  simp (disch := omega) only [go_sem, seval]
  refine awp_loopL (β := Unit) u [0, 2, 3, 5, 9] (fun don s => [(0, .sl (encBs l) .free), (2, .sl (encUs u) .free), (3, .int .i64 known), (5, .ptr (some (h.length, 0))), (9, .int .i64 don.length)])
    (fun _ => h ++ [.row [.int .i64 b.no, .int .i64 b.at_, .int .i64 b.known, .int .i64 b.kind, .int .i64 b.period, .int .i64 b.count, .int .i64 b.value, .bool b.gone] 40])
    (fun don _ _ => ∀ x ∈ don, (decide (x.known ≤ known) && (hasF (standF l x.kind x.at_ known) b.no && !fineF b (spentF b u x.at_ known))) = false) () ?_ rfl (by simp) Ty.mixed (by kernel_rfl) ?_ ?_
  · simp (disch := omega) only [go_sem, seval]
  · rintro don x r _ hd hs
    have hlen : u.length = don.length + 1 + r.length := by rw [hd]; simp; omega
    have e1 : (encUs u)[don.length]? = some (encU x) := by rw [hd]; exact encUs_get don r x
    have hrx := k7 x (by rw [hd]; simp)
    have hx := rightU_facts hrx
    have hta : timeF x.at_ = true := by simp only [timeF, show END = 1099511627776 from rfl, Bool.and_eq_true, decide_eq_true_eq]; omega
    have hkx : inR x.kind 0 15 = true := by simp only [inR, Bool.and_eq_true, decide_eq_true_eq]; omega
    have c1 := fun h => rStanding_calls Γ l x.kind x.at_ known h (by omega)
    rw [show standR l x.kind x.at_ known = (standF l x.kind x.at_ known, 0) from by rw [standR, k1, hkx, hta, hk]; rfl] at c1
    have hsl : (standF l x.kind x.at_ known).length ≤ l.length := List.length_filter_le _ _
    have c2 := fun h => rhas_calls Γ (standF l x.kind x.at_ known) b.no h (by omega)
    have c3 := fun h => c0 x.at_ hta h
    have yes : (decide (x.known ≤ known) && (hasF (standF l x.kind x.at_ known) b.no && !fineF b (spentF b u x.at_ known))) = true → overB l u known b = true := fun e => by
      rw [overB, List.any_eq_true]; exact ⟨x, by rw [hd]; simp, e⟩
    have nxt : (decide (x.known ≤ known) && (hasF (standF l x.kind x.at_ known) b.no && !fineF b (spentF b u x.at_ known))) = false → ∀ y ∈ don ++ [x], (decide (y.known ≤ known) && (hasF (standF l y.kind y.at_ known) b.no && !fineF b (spentF b u y.at_ known))) = false := fun e y hy => by
      rcases List.mem_append.1 hy with hy | hy
      · exact hs y hy
      · rw [List.mem_singleton] at hy; subst hy; exact e
    generalize hasF (standF l x.kind x.at_ known) b.no = b1 at *
    generalize standF l x.kind x.at_ known = st at *
    generalize (!fineF b (spentF b u x.at_ known)) = b2 at *
    simp only [encU] at e1
    simp (disch := omega) only [go_sem, seval, encUs_len]
    refine aIf.pos (by omega) ?_
    simp (disch := omega) only [go_sem, seval, e1]
    refine aIf.intro (fun h1 => ?_) (fun h1 => ?_) <;> simp (disch := omega) only [go_sem, seval, e1]
    · refine roundL_next () (nxt (by rw [decide_eq_false (by omega)]; rfl)) ?_ rfl
      simp (disch := omega) only [go_sem, seval, List.length_append]
    refine aCallF.intro (fun _ => c1 _) ?_
    simp (disch := omega) only [go_sem, seval, e1]
    refine aCallF.intro (fun _ => c2 _) ?_
    cases b1 with
    | false =>
      simp (disch := omega) only [go_sem, seval]
      refine roundL_next () (nxt (by simp)) ?_ rfl
      simp (disch := omega) only [go_sem, seval, List.length_append]
    | true =>
    simp (disch := omega) only [go_sem, seval, e1]
    refine aCallF.intro (fun _ => c3 _) ?_
    cases b2 with
    | false =>
      simp (disch := omega) only [go_sem, seval]
      refine roundL_next () (nxt (by simp)) ?_ rfl
      simp (disch := omega) only [go_sem, seval, List.length_append]
    | true =>
    simp (disch := omega) only [go_sem, seval]
    rw [yes (by rw [decide_eq_true (by omega)]; rfl)]
  · intro _ hs
    simp (disch := omega) only [go_sem, seval, encUs_len]
    refine AWP.keep [] (aCode_ok Ty.mixed _ _ _ _ (by kernel_rfl) ?_)
    simp (disch := omega) only [go_sem, seval]
    rw [overB, List.any_eq_false.2 fun y hy => by rw [hs y hy]; simp]
set_option maxRecDepth 100000 in
theorem rOver_calls (Γ : Nat → Option (List AV)) (l : List Bg) (u : List Us) (known : Int) (h : AH) (hl : l.length ≤ 100000) (hu : u.length ≤ 100000) :
    ACalls Try.prog Γ 18 [.sl (encBs l) .free, .sl (encUs u) .free, .int .i64 known] h fun v h' => h' = h ∧ v = .tuple [.sl (encI (overR l u known).1) .free, .int .i64 (overR l u known).2] := by
  have c1 := fun h => rerror_calls Γ l u h (by omega) (by omega)
  have c2 := fun h => rtime_calls Γ known h
  rw [overR]
  refine ACalls.dropL ?_
  refine acalls_code (rs := [.tmp 6, .tmp 7]) Try.func18 rfl rfl rfl rfl Ty.mixed (by kernel_rfl) ?_
  simp (disch := omega) only [go_sem, seval]
  refine ACalls.det (c1 _) ?_
  simp (disch := omega) only [go_sem, seval]
  refine aIf.intro (fun h1 => ?_) (fun h1 => ?_) <;> simp (disch := omega) only [go_sem, seval]
  rotate_left
  · rw [if_pos h1]; rfl
  rw [if_neg (by simpa using h1)]
  obtain ⟨k1, k2, k3, k4, k5, k6, k7⟩ := err0 h1
  refine ACalls.det (c2 _) ?_
  cases hk : timeF known with
  | false => simp (disch := omega) only [go_sem, seval]; rfl
  | true =>
  simp (disch := omega) only [go_sem, seval]
  refine awp_loopL (β := FlS) l [0, 1, 2, 9, 10] (fun don s => [(0, .sl (encBs l) .free), (1, .sl (encUs u) .free), (2, .int .i64 known), (9, .sl (encI s.l) s.own), (10, .int .i64 don.length)])
    (fun s => h ++ s.j) (fun don r s => OwnAt h s.j s.l.length s.own ∧ s.l = (don.filter (overB l u known)).map fun b => b.no) ⟨[], .full, []⟩ ?_ (by simp) ⟨trivial, rfl⟩ Ty.mixed (by kernel_rfl) ?_ ?_
  · simp (disch := omega) only [go_sem, seval, encI, List.map_nil]
  · rintro don x r ⟨m, own, j⟩ hd ⟨ho, hm⟩
    simp only at ho hm ⊢
    have hlen : l.length = don.length + 1 + r.length := by rw [hd]; simp; omega
    have hml : m.length ≤ don.length := by rw [hm, List.length_map]; exact List.length_filter_le _ _
    have e1 : (encBs l)[don.length]? = some (encB x) := by rw [hd]; exact encBs_get don r x
    have c3 := fun h => rover_calls Γ l x u known h h1 (by rw [hd]; simp) hk
    have no : overB l u known x = false → m = ((don ++ [x]).filter (overB l u known)).map fun b => b.no := fun e => by
      rw [hm, List.filter_append, List.filter_cons_of_neg (by rw [e]; simp), List.filter_nil, List.append_nil]
    have yes : overB l u known x = true → m ++ [x.no] = ((don ++ [x]).filter (overB l u known)).map fun b => b.no := fun e => by
      rw [hm, List.filter_append, List.filter_cons_of_pos e, List.filter_nil, List.map_append]; rfl
    generalize overB l u known x = bb at *
    simp only [encB] at e1 c3
    simp (disch := omega) only [go_sem, seval, encBs_len]
    refine aIf.pos (by omega) ?_
    simp (disch := omega) only [go_sem, seval, e1]
    refine ACalls.det (c3 _) ?_
    cases bb with
    | false =>
      simp (disch := omega) only [go_sem, seval]
      refine roundL_next ⟨m, own, j⟩ ⟨ho, no rfl⟩ ?_ rfl
      simp (disch := omega) only [go_sem, seval, List.length_append]
    | true =>
      simp (disch := omega) only [go_sem, seval, e1]
      refine aAp_sl (by rw [encI_len]; exact ho) (rowsOK_I _) (rowsOK_I [x.no]) (by simp [encI_len]; omega) (by simp [encI_len]; omega) fun j' own' ho2 hg => ?_
      rw [encI_snoc]
      simp (disch := omega) only [go_sem, seval]
      refine roundL_next ⟨m ++ [x.no], own', j'⟩ ⟨by simpa [encI_len] using ho2, yes rfl⟩ ?_ rfl
      simp (disch := omega) only [go_sem, seval, List.length_append]
  · rintro ⟨m, own, j⟩ ⟨ho, hm⟩
    simp only at hm
    simp (disch := omega) only [go_sem, seval, encBs_len]
    refine AWP.keep [9] (aCode_ok Ty.mixed _ _ _ _ (by kernel_rfl) ?_)
    simp (disch := omega) only [go_sem, seval]
    rw [hm]; rfl
end Go.Proofs.Ytelehpccfaedjaa

/- The reference's put and History; equal lists; few. No conditions. -/
set_option linter.unusedSimpArgs false
set_option linter.unusedVariables false
namespace Go.Proofs.Ytelehpccfaedjaa
open Go Go.Proofs Go.Abs

theorem putF_skip (t : Int) : ∀ (d r : List Int), (∀ y ∈ d, y < t) → putF (d ++ r) t = d ++ putF r t
  | [], r, _ => rfl
  | y :: d, r, h => by rw [List.cons_append, putF, if_pos (h y (by simp)), putF_skip t d r fun z hz => h z (by simp [hz])]; rfl
/-- An append to nothing. -/
theorem aAp_new {n by_ : Nat} {xs : List AV} {o : Abs.Own} {h : AH} {C : AV → AH → Prop} (h2 : RowsOK n xs) (h3 : xs.length ≤ 9223372036854775807) (h4 : xs.length * by_ ≤ 140737488355328)
    (H : ∀ j' own', OwnAt h j' xs.length own' → C (.sl xs own') (h ++ j')) : aAp (some (n, by_)) (.sl [] .full) (.sl xs o) h C := by
  refine aAp_full (fun r hr => by simp at hr) h2 (by simpa using h3) (by simpa using h4) ?_
  have := H [.arena xs.length] (.arena h.length) ⟨0, rfl, rfl⟩
  simpa using this
theorem encI_get (a r : List Int) (x : Int) : (encI (a ++ x :: r))[a.length]? = some (.int .i64 x) := by simp [encI]
theorem encI_take (l : List Int) (k : Nat) : (encI l).take k = encI (l.take k) := by simp [encI, List.map_take]
theorem encI_drop (l : List Int) (k : Nat) : (encI l).drop k = encI (l.drop k) := by simp [encI, List.map_drop]
set_option maxHeartbeats 1000000 in
set_option maxRecDepth 100000 in
theorem rput_calls (Γ : Nat → Option (List AV)) (l : List Int) (t : Int) (h : AH) (hl : l.length ≤ 1000000) :
    ACalls Try.prog Γ 51 [.sl (encI l) .free, .int .i64 t] h fun v h' => h' = h ∧ v = .sl (encI (putF l t)) .free := by
  refine ACalls.dropL ?_
  refine acalls_code (rs := [.tmp 4]) Try.func51 rfl rfl rfl rfl Ty.mixed (by kernel_rfl) ?_
  simp (disch := omega) only [go_sem, seval]
  refine awp_loopL (β := Unit) l [0, 1, 5] (fun don _ => [(0, .sl (encI l) .free), (1, .int .i64 t), (5, .int .i64 don.length)]) (fun _ => h) (fun don _ _ => ∀ y ∈ don, y < t) () ?_ rfl (by simp) Ty.mixed (by kernel_rfl) ?_ ?_
  · simp (disch := omega) only [go_sem, seval]
  · rintro don x r _ hd hs
    have hlen : l.length = don.length + 1 + r.length := by rw [hd]; simp; omega
    have e1 : (encI l)[don.length]? = some (.int .i64 x) := by rw [hd]; exact encI_get don r x
    simp (disch := omega) only [go_sem, seval, encI_len]
    refine aIf.pos (by omega) ?_
    simp (disch := omega) only [go_sem, seval, e1]
    refine aIf.intro (fun h1 => ?_) (fun h1 => ?_) <;> simp (disch := omega) only [go_sem, seval, e1, encI_len]
    · refine roundL_next () ?_ ?_ rfl
      · intro y hy
        rcases List.mem_append.1 hy with hy | hy
        · exact hs y hy
        · rw [List.mem_singleton] at hy; subst hy; exact h1
      · simp (disch := omega) only [go_sem, seval, List.length_append]
    have hput : putF l t = don ++ putF (x :: r) t := by rw [hd, putF_skip t don _ hs]
    refine AWP.keep [0, 1, 5] (aCode_ok Ty.mixed _ _ _ _ (by kernel_rfl) ?_)
    simp (disch := omega) only [go_sem, seval, encI_len]
    refine aIf.pos (by omega) ?_
    simp (disch := omega) only [go_sem, seval, e1]
    refine aIf.intro (fun h2 => ?_) (fun h2 => ?_) <;> simp (disch := omega) only [go_sem, seval, e1, encI_len]
    · rw [hput, putF, if_neg h1, if_pos h2, ← hd]
    refine ⟨rowsOK_I _, by omega, ?_⟩
    rw [encI_take, show l.take don.length = don from by rw [hd]; simp]
    refine aAp_new (rowsOK_I _) (by rw [encI_len]; omega) (by rw [encI_len]; omega) fun j1 own1 ho1 => ?_
    simp (disch := omega) only [go_sem, seval]
    refine aAp_sl ho1 (rowsOK_I _) (rowsOK_I [t]) (by simp [encI_len]; omega) (by simp [encI_len]; omega) fun j2 own2 ho2 _ => ?_
    rw [encI_snoc]
    simp (disch := omega) only [go_sem, seval, encI_len]
    refine ⟨rowsOK_I _, by omega, ?_⟩
    rw [encI_drop, show l.drop don.length = x :: r from by rw [hd]; simp]
    refine aAp_sl (by simpa [encI_len] using ho2) (rowsOK_I _) (rowsOK_I _) (by simp [encI_len]; omega) (by simp [encI_len]; omega) fun j3 own3 ho3 _ => ?_
    rw [← encI_app]
    simp (disch := omega) only [go_sem, seval]
    rw [hput, putF, if_neg h1, if_neg h2]
    simp
  · intro _ hs
    simp (disch := omega) only [go_sem, seval, encI_len]
    refine AWP.keep [0, 1, 5] (aCode_ok Ty.mixed _ _ _ _ (by kernel_rfl) ?_)
    simp (disch := omega) only [go_sem, seval, encI_len]
    refine ⟨rowsOK_I _, by omega, ?_⟩
    rw [encI_take, List.take_length]
    refine aAp_new (rowsOK_I _) (by rw [encI_len]; omega) (by rw [encI_len]; omega) fun j1 own1 ho1 => ?_
    simp (disch := omega) only [go_sem, seval]
    refine aAp_sl ho1 (rowsOK_I _) (rowsOK_I [t]) (by simp [encI_len]; omega) (by simp [encI_len]; omega) fun j2 own2 ho2 _ => ?_
    rw [encI_snoc]
    simp (disch := omega) only [go_sem, seval, encI_len]
    refine ⟨rowsOK_I _, by omega, ?_⟩
    rw [encI_drop, List.drop_length]
    refine aAp_sl (by simpa [encI_len] using ho2) (rowsOK_I _) (rowsOK_I _) (by simp [encI_len]; omega) (by simp [encI_len]; omega) fun j3 own3 ho3 _ => ?_
    rw [← encI_app]
    simp (disch := omega) only [go_sem, seval]
    have := putF_skip t l [] hs
    rw [List.append_nil] at this
    rw [this, putF]
theorem encS_get (a r : List St) (x : St) : ((a ++ x :: r).map encS)[a.length]? = some (encS x) := by simp
theorem rowsOK_S (l : List St) : RowsOK 3 (l.map encS) := fun r hr => by
  obtain ⟨x, _, rfl⟩ := List.mem_map.1 hr
  refine ⟨rfl, fun c hc => ?_⟩
  simp only [encS, AV.cells, List.mem_cons, List.not_mem_nil, or_false] at hc
  rcases hc with rfl | rfl | rfl <;> rfl
theorem rb_S (n : Nat) (l : List St) : RB n (.sl (l.map encS) .free) := .sl' fun r hr => by
  obtain ⟨x, _, rfl⟩ := List.mem_map.1 hr
  exact of_eq_true (by rw [encS]; simp (disch := omega) only [go_sem, seval])
theorem loose_S (l : List St) : looseL (l.map encS) = l.map encS := looseL_maps _ (fun _ => rfl) l
theorem encS_snoc (l : List St) (x : St) : l.map encS ++ [encS x] = (l ++ [x]).map encS := by simp
structure StS where
  l : List St
  own : Abs.Own
  j : AH
structure TsS where
  l : List Int
  own : Abs.Own
set_option maxHeartbeats 2000000 in
set_option maxRecDepth 100000 in
theorem rHistory_calls (Γ : Nat → Option (List AV)) (l : List Bg) (u : List Us) (no p known : Int) (h : AH) (hl : l.length ≤ 100000) (hu : u.length ≤ 100000) :
    ACalls Try.prog Γ 21 [.sl (encBs l) .free, .sl (encUs u) .free, .int .i64 no, .int .i64 p, .int .i64 known] h fun v h' => h' = h ∧ v = .tuple [.sl ((histR l u no p known).1.map encS) .free, .int .i64 (histR l u no p known).2] := by
  have c1 := fun h => rerror_calls Γ l u h (by omega) (by omega)
  have c2 := fun h => rfind_calls Γ l no h (by omega)
  have c4 := fun h => rtime_calls Γ known h
  rw [histR]
  refine ACalls.dropL ?_
  refine acalls_code (rs := [.tmp 10, .tmp 11]) Try.func21 rfl rfl rfl rfl Ty.mixed (by kernel_rfl) ?_
  simp (disch := omega) only [go_sem, seval]
  refine ACalls.det (c1 _) ?_
  simp (disch := omega) only [go_sem, seval]
  refine aIf.intro (fun h1 => ?_) (fun h1 => ?_) <;> simp (disch := omega) only [go_sem, seval]
  rotate_left
  · rw [if_pos h1]; rfl
  rw [if_neg (by simpa using h1)]
  obtain ⟨k1, k2, k3, k4, k5, k6, k7⟩ := err0 h1
  refine ACalls.det (c2 _) ?_
  rw [findF_eq]
  rcases bidx_find (isNo no) l with ⟨f1, f2⟩ | ⟨a, b, r0, f0, f1, f2⟩
  · rw [f1, f2]
    simp (disch := omega) only [go_sem, seval, bidI]
  rw [f1, f2]
  have e1 : (encBs l)[a.length]? = some (encB b) := by rw [f0]; exact encBs_get a r0 b
  have hal : a.length < l.length := by rw [f0]; simp
  have hrb := k4 b (by rw [f0]; simp)
  have hp := rightB_period hrb
  obtain ⟨q1, q2, q3⟩ := div_facts (a := 1099511627775) (p := b.period) (by omega) hp.1
  have c5 := fun t ht h => rspent_calls Γ b u t known h hrb k7 (by omega) ht
  have c6 := fun t ht h => rtooMuch_calls Γ b u t known h hrb k7 (by omega) ht
  have c7 := fun x h => rof_calls Γ b x known h
  simp only [encB] at e1 c5 c6 c7
  simp (disch := omega) only [go_sem, seval, bidI]
  refine aIf.neg (by omega) ?_
  simp (disch := omega) only [go_sem, seval]
  rw [show (END - 1 : Int) = 1099511627775 from rfl]
  refine aIf.intro (fun h2 => ?_) (fun h2 => ?_) <;> simp (disch := omega) only [go_sem, seval, e1]
  · rw [decide_eq_false (by omega)]; rfl
  rw [decide_eq_true (by omega)]
  refine ⟨by omega, ?_⟩
  rw [q1]
  refine aIf.intro (fun h3 => ?_) (fun h3 => ?_) <;> simp (disch := omega) only [go_sem, seval]
  · rw [decide_eq_false (by omega)]; rfl
  rw [decide_eq_true (by omega)]
  refine ACalls.det (c4 _) ?_
  cases hk : timeF known with
  | false => simp (disch := omega) only [go_sem, seval]
  | true =>
  simp (disch := omega) only [go_sem, seval]
  refine awp_loopL (β := TsS) u [0, 1, 3, 4, 13, 14, 15] (fun don s => [(0, .sl (encBs l) .free), (1, .sl (encUs u) .free), (3, .int .i64 p), (4, .int .i64 known), (13, .int .i64 a.length), (14, .sl (encI s.l) s.own), (15, .int .i64 don.length)])
    (fun _ => h) (fun don _ s => s.l = timesF b don p known) ⟨[], .full⟩ ?_ rfl rfl Ty.mixed (by kernel_rfl) ?_ ?_
  · simp (disch := omega) only [go_sem, seval, encI, List.map_nil]
  · rintro don x r ⟨m, own⟩ hd hm
    simp only at hm ⊢
    have hlen : u.length = don.length + 1 + r.length := by rw [hd]; simp; omega
    have e2 : (encUs u)[don.length]? = some (encU x) := by rw [hd]; exact encUs_get don r x
    have hx := rightU_facts (k7 x (by rw [hd]; simp))
    obtain ⟨r1, r2, r3⟩ := div_facts (p := b.period) (show 0 ≤ x.at_ by omega) hp.1
    have hml : m.length ≤ don.length := by rw [hm]; exact timesF_len b don p known
    have c8 := fun h => c7 x h
    have c9 := fun h => rput_calls Γ m x.at_ h (by omega)
    have hPx : inP b known p x = (ofF b known x && decide (x.at_ / b.period = p)) := rfl
    have no : inP b known p x = false → m = timesF b (don ++ [x]) p known := fun e => by rw [hm, timesF_snoc, if_neg (by rw [e]; simp)]
    have yes : inP b known p x = true → putF m x.at_ = timesF b (don ++ [x]) p known := fun e => by rw [hm, timesF_snoc, if_pos e]
    generalize ofF b known x = bb at *
    simp only [encU] at e2 c8
    simp (disch := omega) only [go_sem, seval, encUs_len]
    refine aIf.pos (by omega) ?_
    simp (disch := omega) only [go_sem, seval, e1, e2]
    refine aCallF.intro (fun _ => c8 _) ?_
    cases bb with
    | false =>
      simp (disch := omega) only [go_sem, seval]
      refine roundL_next ⟨m, own⟩ (no (by rw [hPx]; rfl)) ?_ rfl
      simp (disch := omega) only [go_sem, seval, List.length_append]
    | true =>
    simp (disch := omega) only [go_sem, seval, e1, e2]
    refine ⟨by omega, ?_⟩
    rw [r1]
    refine aIf.intro (fun h4 => ?_) (fun h4 => ?_) <;> simp (disch := omega) only [go_sem, seval, e1, e2]
    rotate_left
    · refine roundL_next ⟨m, own⟩ (no (by rw [hPx, decide_eq_false h4]; rfl)) ?_ rfl
      simp (disch := omega) only [go_sem, seval, List.length_append]
    refine ACalls.det ((c9 _).ofLoose (by simp (disch := omega) only [go_sem, seval])) ?_
    simp (disch := omega) only [go_sem, seval]
    refine roundL_next ⟨putF m x.at_, .free⟩ (yes (by rw [hPx, decide_eq_true h4]; rfl)) ?_ rfl
    simp (disch := omega) only [go_sem, seval, List.length_append]
  rintro ⟨ts, own⟩ hts
  simp only at hts ⊢
  have htl : ts.length ≤ u.length := by rw [hts]; exact timesF_len b u p known
  simp (disch := omega) only [go_sem, seval, encUs_len]
  refine AWP.keep [0, 1, 4, 13, 14] (aCode_ok Ty.mixed _ _ _ _ (by kernel_rfl) ?_)
  simp (disch := omega) only [go_sem, seval]
  refine awp_loopL (β := StS) ts [0, 1, 4, 13, 14, 16, 17] (fun don s => [(0, .sl (encBs l) .free), (1, .sl (encUs u) .free), (4, .int .i64 known), (13, .int .i64 a.length), (14, .sl (encI ts) own), (16, .sl (s.l.map encS) s.own), (17, .int .i64 don.length)])
    (fun s => h ++ s.j) (fun don _ s => OwnAt h s.j s.l.length s.own ∧ s.l = don.map (stepF b u known)) ⟨[], .full, []⟩ ?_ (by simp) ⟨trivial, rfl⟩ Ty.mixed (by kernel_rfl) ?_ ?_
  · simp (disch := omega) only [go_sem, seval, List.map_nil]
  · rintro don t r ⟨m, own2, j⟩ hd ⟨ho, hm⟩
    simp only at ho hm ⊢
    have hlen : ts.length = don.length + 1 + r.length := by rw [hd]; simp; omega
    have e3 : (encI ts)[don.length]? = some (.int .i64 t) := by rw [hd]; exact encI_get don r t
    have hml : m.length = don.length := by rw [hm, List.length_map]
    have ht : timeF t = true := by
      have : t ∈ timesF b u p known := by rw [← hts, hd]; simp
      obtain ⟨x, hx, _, rfl⟩ := mem_timesF.1 this
      have := rightU_facts (k7 x hx)
      simp only [timeF, show END = 1099511627776 from rfl, Bool.and_eq_true, decide_eq_true_eq]; omega
    have c8 := fun h => c5 t ht h
    have c9 := fun h => c6 t ht h
    have hS : stepF b u known t = ⟨t, (spentF b u t known).1, fineF b (spentF b u t known)⟩ := rfl
    generalize spentF b u t known = s at *
    generalize fineF b s = bf at *
    obtain ⟨s1, s2⟩ := s
    simp only at hS c8
    simp (disch := omega) only [go_sem, seval, encI_len]
    refine aIf.pos (by omega) ?_
    simp (disch := omega) only [go_sem, seval, e1, e3]
    refine aCallF.intro (fun _ => c8 _) ?_
    simp (disch := omega) only [go_sem, seval, e1, e3]
    refine aCallF.intro (fun _ => c9 _) ?_
    simp (disch := omega) only [go_sem, seval, Bool.not_not]
    refine aAp_sl (by rw [List.length_map]; exact ho) (rowsOK_S _) (rowsOK_S [⟨t, s1, bf⟩]) (by simp; omega) (by simp; omega) fun j' own' ho2 hg => ?_
    simp (disch := omega) only [go_sem, seval]
    refine roundL_next ⟨m ++ [⟨t, s1, bf⟩], own', j'⟩ ⟨by simpa using ho2, by rw [hm, List.map_append, List.map_cons, hS]; rfl⟩ ?_ rfl
    simp (disch := omega) only [go_sem, seval, List.length_append, List.map_append]
    rfl
  · rintro ⟨m, own2, j⟩ ⟨ho, hm⟩
    simp only at hm
    simp (disch := omega) only [go_sem, seval, encI_len]
    refine AWP.keep [16] (aCode_ok Ty.mixed _ _ _ _ (by kernel_rfl) ?_)
    simp (disch := omega) only [go_sem, seval, loose_S]
    rw [hm, hts]
    exact ⟨rb_S _ _, rfl⟩
end Go.Proofs.Ytelehpccfaedjaa
