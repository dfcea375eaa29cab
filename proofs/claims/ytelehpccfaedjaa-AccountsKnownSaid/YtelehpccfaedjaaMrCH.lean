/- Texts joined: AccZ. No conditions. -/
import Derived.Test.YtelehpccfaedjaaMrCF
/- AccountsSteps: the plain law, and the code. No conditions. -/
set_option linter.unusedSimpArgs false
set_option linter.unusedVariables false
namespace Go.Proofs.Ytelehpccfaedjaa
open Go Go.Proofs Go.Abs

theorem timesF_in {b : Bg} {u : List Us} {p n t : Int} (h : t ∈ timesF b u p n) : t / b.period = p := by
  obtain ⟨x, _, hp, rfl⟩ := mem_timesF.1 h
  rw [inP, Bool.and_eq_true, decide_eq_true_eq] at hp
  exact hp.2
theorem timesF_time {b : Bg} {u : List Us} {p n t : Int} (hu : ∀ x ∈ u, rightU x = true) (h : t ∈ timesF b u p n) : timeF t = true := by
  obtain ⟨x, hx, _, rfl⟩ := mem_timesF.1 h
  have := rightU_facts (hu x hx)
  simp only [timeF, show END = 1099511627776 from rfl, Bool.and_eq_true, decide_eq_true_eq]; omega
theorem sumP_grow {p q : Us → Bool} {l : List Us} (h : ∀ x ∈ l, p x = true → q x = true) {y : Us} (hy : y ∈ l) (h1 : p y = false) (h2 : q y = true) : (sumP p l).1 < (sumP q l).1 := by
  rw [sumP_split q p l]
  have e : sumP (fun x => q x && p x) l = sumP p l := sumP_congr fun x hx => by
    cases hp : p x with
    | false => simp
    | true => rw [h x hx hp]; rfl
  have := sumP_pos (p := fun x => q x && !p x) hy (by simp [h1, h2])
  simp only [e]
  omega
/-- Later steps say more. -/
theorem step_lt {b : Bg} {u : List Us} {p n t1 t2 : Int} (h1 : t1 ∈ timesF b u p n) (h2 : t2 ∈ timesF b u p n) (h : t1 < t2) : (spentF b u t1 n).1 < (spentF b u t2 n).1 := by
  rw [spentF_in, spentF_in, timesF_in h1, timesF_in h2]
  obtain ⟨x, hx, hp, rfl⟩ := mem_timesF.1 h2
  refine sumP_grow (fun y _ hy => ?_) (List.mem_filter.2 ⟨hx, hp⟩) ?_ ?_
  · simp only [leT, decide_eq_true_eq] at hy ⊢; omega
  · simp only [leT, decide_eq_false_iff_not]; omega
  · simp [leT]
/-- The last one that is not too late. -/
def lastS (at_ : Int) : List St → St
  | [] => ⟨0, 0, true⟩
  | l => (l.filter fun s => decide (s.at_ ≤ at_)).getLastD ⟨0, 0, true⟩
theorem lastS_eq (at_ : Int) (l : List St) : lastS at_ l = (l.filter fun s => decide (s.at_ ≤ at_)).getLastD ⟨0, 0, true⟩ := by
  cases l <;> rfl
theorem lastS_snoc (at_ : Int) (l : List St) (x : St) : lastS at_ (l ++ [x]) = if x.at_ ≤ at_ then x else lastS at_ l := by
  rw [lastS_eq, lastS_eq, List.filter_append]
  split
  · rename_i h
    rw [List.filter_cons_of_pos (by simpa using h), List.filter_nil]
    simp
  · rename_i h
    rw [List.filter_cons_of_neg (by simpa using h), List.filter_nil, List.append_nil]
theorem fine_zero {b : Bg} (h : rightB b = true) : fineF b (0, 0) = true := by
  simp only [rightB, inR, Bool.and_eq_true] at h
  simp only [fineF, Bool.and_eq_true, decide_eq_true_eq]
  have := h.2
  split at this <;> simp only [Bool.and_eq_true, decide_eq_true_eq] at this <;> omega
/-- What was spent up to some time is what the last step up to it says. -/
theorem last_is {b : Bg} {u : List Us} {at_ n : Int} (hb : rightB b = true) : (lastS at_ (stepsF b u (at_ / b.period) n)).value = (spentF b u at_ n).1 ∧ (lastS at_ (stepsF b u (at_ / b.period) n)).ok = fineF b (spentF b u at_ n) := by
  have hs := timesF_sorted b u (at_ / b.period) n
  have key : ∀ (d r : List Int), timesF b u (at_ / b.period) n = d ++ r → (∀ t ∈ r, at_ < t) → (∀ t ∈ d, t ≤ at_) → (lastS at_ (stepsF b u (at_ / b.period) n)).value = (spentF b u at_ n).1 ∧ (lastS at_ (stepsF b u (at_ / b.period) n)).ok = fineF b (spentF b u at_ n) := fun d r e hr hd => by
    have e1 : (stepsF b u (at_ / b.period) n).filter (fun s => decide (s.at_ ≤ at_)) = d.map (stepF b u n) := by
      rw [stepsF, e, List.map_append, List.filter_append, List.filter_eq_self.2 fun s hs => by
        obtain ⟨t, ht, rfl⟩ := List.mem_map.1 hs
        exact decide_eq_true (hd t ht), List.filter_eq_nil_iff.2 fun s hs => by
        obtain ⟨t, ht, rfl⟩ := List.mem_map.1 hs
        have := hr t ht
        show ¬ decide (t ≤ at_) = true
        rw [decide_eq_true_iff]; omega, List.append_nil]
    rw [lastS_eq, e1]
    rcases List.eq_nil_or_concat d with rfl | ⟨d', t, rfl⟩
    · have : spentF b u at_ n = (0, 0) := by
        rw [spentF_in]
        refine sumP_none fun x hx => ?_
        obtain ⟨hx1, hx2⟩ := List.mem_filter.1 hx
        have hm : x.at_ ∈ timesF b u (at_ / b.period) n := mem_timesF.2 ⟨x, hx1, hx2, rfl⟩
        rw [e, List.nil_append] at hm
        have := hr _ hm
        simp only [leT, decide_eq_false_iff_not]; omega
      rw [this]
      exact ⟨rfl, (fine_zero hb).symm⟩
    · rw [List.concat_eq_append] at *
      have htm : t ∈ timesF b u (at_ / b.period) n := by rw [e]; simp
      have : spentF b u at_ n = spentF b u t n := by
        rw [spentF_in, spentF_in, timesF_in htm]
        refine sumP_congr fun x hx => ?_
        obtain ⟨hx1, hx2⟩ := List.mem_filter.1 hx
        have hm : x.at_ ∈ timesF b u (at_ / b.period) n := mem_timesF.2 ⟨x, hx1, hx2, rfl⟩
        rw [leT, leT, decide_eq_decide]
        rw [e] at hm hs
        have ht := hd t (by simp)
        rcases List.mem_append.1 hm with hm | hm
        · have h1 := hd _ hm
          rw [List.pairwise_append, List.pairwise_append] at hs
          rcases List.mem_append.1 hm with hm | hm
          · have := hs.1.2.2 _ hm t (by simp); omega
          · rw [List.mem_singleton] at hm; omega
        · have := hr _ hm; omega
      rw [this, List.map_append]
      simp [stepF]
  generalize hT : timesF b u (at_ / b.period) n = T at *
  have split : ∀ (l : List Int), l.Pairwise (· < ·) → ∃ d r, l = d ++ r ∧ (∀ t ∈ r, at_ < t) ∧ ∀ t ∈ d, t ≤ at_ := fun l => by
    induction l with
    | nil => exact fun _ => ⟨[], [], rfl, by simp, by simp⟩
    | cons a l ih =>
      intro h
      rw [List.pairwise_cons] at h
      by_cases ha : a ≤ at_
      · obtain ⟨d, r, e, h1, h2⟩ := ih h.2
        exact ⟨a :: d, r, by rw [e]; rfl, h1, fun t ht => by
          rcases List.mem_cons.1 ht with rfl | ht
          · exact ha
          · exact h2 t ht⟩
      · exact ⟨[], a :: l, rfl, fun t ht => by
          rcases List.mem_cons.1 ht with rfl | ht
          · omega
          · have := h.1 t ht; omega, by simp⟩
  obtain ⟨d, r, e, h1, h2⟩ := split T hs
  exact key d r e h1 h2
theorem bidI_find (l : List Bg) (no : Int) : (findF l no = none ∧ bidI (bidx (isNo no) l) = -1) ∨ ∃ a b r, l = a ++ b :: r ∧ findF l no = some b ∧ bidI (bidx (isNo no) l) = a.length := by
  rcases bidx_find (isNo no) l with ⟨h1, h2⟩ | ⟨a, x, r, h0, h1, h2⟩
  · exact .inl ⟨h2, by rw [h1]; rfl⟩
  · exact .inr ⟨a, x, r, h0, h2, by rw [h1]; rfl⟩
set_option maxHeartbeats 4000000 in
set_option maxRecDepth 100000 in
theorem accSteps_calls (Γ : Nat → Option (List AV)) (l : List Bg) (u : List Us) (no at_ known : Int) (h : AH) :
    ACalls Try.prog Γ 6 [.sl (encBs l) .free, .sl (encUs u) .free, .int .i64 no, .int .i64 at_, .int .i64 known] h fun v h' => h' = h ∧ v = .bool true := by
  have c0 := fun h => right53_calls Γ l u [at_, known] h (by simp)
  refine ACalls.drop ?_
  refine acalls_code (rs := [.tmp 10]) Try.func6 rfl rfl rfl rfl Ty.mixed (by kernel_rfl) ?_
  simp (disch := omega) only [go_sem, seval]
  refine ACalls.det (sane53_calls Γ _) ?_
  simp (disch := omega) only [go_sem, seval]
  refine ACalls.det ((c0 _).ofLoose (by simp (disch := omega) only [go_sem, seval, encI, List.map_cons, List.map_nil, loose_Bs])) ?_
  cases hr : ([at_, known].all timeF && decide (l.length ≤ 20) && decide (u.length ≤ 20) && decide (errA l u = 0)) with
  | false => simp (disch := omega) only [go_sem, seval]
  | true =>
  simp only [List.all_cons, List.all_nil, Bool.and_true, Bool.and_eq_true, decide_eq_true_eq] at hr
  obtain ⟨⟨⟨⟨ha, hk⟩, hl20⟩, hu20⟩, he⟩ := hr
  obtain ⟨k1, k2, k3, k4, k5, k6, k7⟩ := err0 he
  have c1 := fun h => rfind_calls Γ l no h (by omega)
  have c2 := fun h => pSpent_calls Γ l u no at_ known h (by omega) (by omega)
  simp (disch := omega) only [go_sem, seval]
  refine ACalls.det (c1 _) ?_
  simp (disch := omega) only [go_sem, seval]
  refine ACalls.det (c2 _) ?_
  rcases bidI_find l no with ⟨f1, f2⟩ | ⟨a, b, r0, f0, f1, f2⟩
  · have e : spentR l u no at_ known = (0, 0, 1) := by rw [spentR, if_neg (by simpa using he), f1]
    rw [f2, e]
    simp (disch := omega) only [go_sem, seval]
  have hbl : b ∈ l := by rw [f0]; simp
  have hrb := k4 b hbl
  have hpd := rightB_period hrb
  have hat := timeF_facts ha
  obtain ⟨q1, q2, q3⟩ := div_facts hat.1 hpd.1
  have hsp : ∀ t, timeF t = true → spentR l u no t known = ((spentF b u t known).1, (spentF b u t known).2, 0) := fun t ht => by
    rw [spentR, if_neg (by simpa using he), f1]
    simp only [ht, hk, Bool.and_self, if_true]
  rw [f2, hsp at_ ha]
  have e1 : (encBs l)[a.length]? = some (encB b) := by rw [f0]; exact encBs_get a r0 b
  have hal : a.length < l.length := by rw [f0]; simp
  have c3 := fun h => pHistory_calls Γ l u no (at_ / b.period) known h (by omega) (by omega)
  have hq4 : at_ / b.period ≤ 1099511627775 / b.period := Int.ediv_le_ediv (by omega) hat.2
  rw [show histR l u no (at_ / b.period) known = (stepsF b u (at_ / b.period) known, 0) from by
    rw [histR, if_neg (by simpa using he), f1]
    simp only [show (END - 1 : Int) = 1099511627775 from rfl]
    rw [decide_eq_true q2, decide_eq_true hq4, hk]; rfl] at c3
  have c4 : ∀ t, timeF t = true → ∀ h, ACalls Try.prog Γ 15 [.sl (encBs l) .free, .sl (encUs u) .free, .int .i64 no, .int .i64 t, .int .i64 known] h fun v h' => h' = h ∧ v = .tuple [.int .i64 (spentF b u t known).1, .int .i64 (spentF b u t known).2, .int .i64 0] := fun t ht h => by
    have := pSpent_calls Γ l u no t known h (by omega) (by omega)
    rw [hsp t ht] at this
    exact this
  obtain ⟨l1, l2⟩ := last_is (u := u) (at_ := at_) (n := known) hrb
  have hts := timesF_sorted b u (at_ / b.period) known
  have hlen0 := timesF_len b u (at_ / b.period) known
  have hmem : ∀ t ∈ timesF b u (at_ / b.period) known, timeF t = true ∧ t / b.period = at_ / b.period := fun t ht => ⟨timesF_time k7 ht, timesF_in ht⟩
  have hstp : ∀ t1 ∈ timesF b u (at_ / b.period) known, ∀ t2 ∈ timesF b u (at_ / b.period) known, t1 < t2 → (spentF b u t1 known).1 < (spentF b u t2 known).1 := fun t1 h1 t2 h2 h => step_lt h1 h2 h
  rw [stepsF] at c3 l1 l2
  generalize timesF b u (at_ / b.period) known = ts at *
  simp only [encB] at e1
  simp (disch := omega) only [go_sem, seval]
  refine aIf.neg (by omega) ?_
  simp (disch := omega) only [go_sem, seval, e1]
  refine ⟨by omega, ?_⟩
  rw [q1]
  refine ACalls.det (c3 _) ?_
  simp (disch := omega) only [go_sem, seval, List.length_map]
  obtain ⟨K, hK⟩ : ∃ K : St → AH, ∀ s, K s = h ++ [.row (budC b) 40, .row [.int .i64 s.at_, .int .i64 s.value, .bool s.ok] 48] := ⟨_, fun _ => rfl⟩
  have Kl : ∀ s, (K s).length = h.length + 2 := fun s => by rw [hK]; simp
  have Kb : ∀ s (R : AH), (K s ++ R)[h.length]? = some (.row (budC b) 40) := fun s R => by rw [hK]; simp
  have Ks : ∀ s (R : AH), (K s ++ R)[h.length + 1]? = some (.row [.int .i64 s.at_, .int .i64 s.value, .bool s.ok] 48) := fun s R => by rw [hK]; simp
  have Ss : ∀ s (R : AH) a1 a2 a3, (K s ++ R).set (h.length + 1) (.row [.int .i64 a1, .int .i64 a2, .bool a3] 48) = K ⟨a1, a2, a3⟩ ++ R := fun s R a1 a2 a3 => by rw [hK, hK]; simp
  have Kj : ∀ s (j R : AH), (K s ++ (j ++ R))[h.length + 2 + j.length]? = R[0]? := by intro s j R; rw [← Kl s, hget_add, hget_zero]
  have Sj : ∀ s (j R : AH) (o : AObj), (K s ++ (j ++ R)).set (h.length + 2 + j.length) o = K s ++ (j ++ R.set 0 o) := by intro s j R o; rw [← Kl s, hset_add, hset_zero]
  have Kh : ∀ s (R : AH), ∃ l, K s ++ R = h ++ l := fun s R => ⟨_, by rw [hK, List.append_assoc]⟩
  obtain ⟨S, hS⟩ : ∃ S, S = ts.map (stepF b u known) := ⟨_, rfl⟩
  rw [← hS] at l1 l2 ⊢
  have hSl : S.length = ts.length := by rw [hS, List.length_map]
  have hSf : ∀ x ∈ S, ∃ t ∈ ts, x = stepF b u known t := fun x hx => by rw [hS] at hx; obtain ⟨t, ht, rfl⟩ := List.mem_map.1 hx; exact ⟨t, ht, rfl⟩
  have hSp : S.Pairwise fun a b => a.at_ < b.at_ := by rw [hS, List.pairwise_map]; exact hts.imp fun h => h
  refine awp_loopL (β := AH × List St) S [0, 1, 2, 3, 4, 12, 13, 15, 16, 18, 81, 82, 83] (fun don _ => [(0, .sl (encBs l) .free), (1, .sl (encUs u) .free), (2, .int .i64 no), (3, .int .i64 at_), (4, .int .i64 known), (12, .int .i64 (spentF b u at_ known).1), (13, .int .i64 (spentF b u at_ known).2), (15, .ptr (some (h.length, 0))), (16, .sl (S.map encS) .free), (18, .ptr (some (h.length + 1, 0))), (81, .sl (S.map encS) .free), (82, .int .i64 S.length), (83, .int .i64 don.length)])
    (fun s => K (lastS at_ s.2) ++ s.1) (fun don _ s => s.2 = don) ([], []) ?_ (by rw [hK]; simp [budC, lastS]) rfl Ty.mixed (by kernel_rfl) ?_ ?_
  · simp (disch := omega) only [go_sem, seval, hSl]
  · rintro don x r ⟨jj, don'⟩ hd h0
    simp only at h0
    subst h0
    simp only
    have hlen : S.length = don'.length + 1 + r.length := by rw [hd]; simp; omega
    have e2 : (S.map encS)[don'.length]? = some (encS x) := by rw [hd]; exact encS_get don' r x
    obtain ⟨t, htm, hxt⟩ := hSf x (by rw [hd]; simp)
    obtain ⟨ht1, ht2⟩ := hmem t htm
    have htf := timeF_facts ht1
    obtain ⟨r1, r2, r3⟩ := div_facts htf.1 hpd.1
    have c5 := c4 t ht1
    have hls := lastS_snoc at_ don' x
    have hx3 : x = ⟨t, (spentF b u t known).1, fineF b (spentF b u t known)⟩ := hxt
    have hfin : fineF b (spentF b u t known) = (decide ((spentF b u t known).1 ≤ b.count) && decide ((spentF b u t known).2 ≤ b.value)) := rfl
    rw [hfin] at hx3
    simp only [encS] at e2
    rw [hx3] at e2
    simp only at e2
    have hr1 : t.tdiv b.period = at_.tdiv b.period := by rw [r1, q1, ht2]
    generalize lastS at_ don' = ls at *
    simp (disch := omega) only [go_sem, seval]
    refine aIf.pos (by omega) ?_
    simp (disch := omega) only [go_sem, seval, e2, Kl, Kj, Sj, List.length_append]
    refine ACalls.det (c5 _) ?_
    simp (disch := omega) only [go_sem, seval, Kl, Kb, Kj, Sj, List.length_append, budC]
    refine aIf.intro (fun g1 => ?_) (fun g1 => ?_) <;> simp (disch := omega) only [go_sem, seval, Kl, Kb, Kj, Sj, List.length_append, budC]
    · simp (disch := omega) only [go_sem, seval, decide_eq_true g1, Bool.true_and, bne_self_eq_false, Kl, Kb, Kj, Sj, List.length_append, budC]
      refine ⟨by omega, by omega, ?_⟩
      refine aIf.pos hr1 ?_
      simp (disch := omega) only [go_sem, seval, Kl, Kb, Kj, Sj, List.length_append, budC]
      refine aIf.neg (by omega) ?_
      simp (disch := omega) only [go_sem, seval, Kl, Kb, Kj, Sj, List.length_append, budC]
      rcases List.eq_nil_or_concat don' with hdn | ⟨d, y, hdn⟩
      · refine aIf.neg (by rw [hdn]; simp) ?_
        simp (disch := omega) only [go_sem, seval, Kl, Kb, Kj, Sj, List.length_append, budC]
        refine aIf.intro (fun g2 => ?_) (fun g2 => ?_) <;> simp (disch := omega) only [go_sem, seval, Kl, Kb, Ks, Kj, Sj, Ss, List.length_append, budC]
        · refine roundL_next (jj ++ [.row [.int .i64 t, .int .i64 (spentF b u t known).1, .bool (decide ((spentF b u t known).2 ≤ b.value))] 48], don' ++ [x]) rfl ?_ ?_
          · simp (disch := omega) only [go_sem, seval, List.length_append]
          · rw [hls, hx3, decide_eq_true g1, Bool.true_and, if_pos g2]
        · refine roundL_next (jj ++ [.row [.int .i64 t, .int .i64 (spentF b u t known).1, .bool (decide ((spentF b u t known).2 ≤ b.value))] 48], don' ++ [x]) rfl ?_ ?_
          · simp (disch := omega) only [go_sem, seval, List.length_append]
          · rw [hls, hx3, decide_eq_true g1, Bool.true_and, if_neg g2]
      rw [List.concat_eq_append] at hdn
      have hdl : don'.length = d.length + 1 := by rw [hdn]; simp
      obtain ⟨t0, htm0, hyt⟩ := hSf y (by rw [hd, hdn]; simp)
      have hlt : t0 < t := by
        rw [hd, hdn] at hSp
        have := (List.pairwise_append.1 hSp).2.2 y (by simp) x (by simp)
        rw [hyt, hxt] at this
        exact this
      have hlt2 := hstp t0 htm0 t htm hlt
      have e3 : (S.map encS)[d.length]? = some (encS y) := by rw [hd, hdn, List.append_assoc]; exact encS_get d _ y
      rw [hyt] at e3
      simp only [encS, stepF] at e3
      have e4 : ((don'.length : Int) - 1).toNat = d.length := by omega
      refine aIf.pos (by omega) ?_
      simp (disch := omega) only [go_sem, seval, Kl, Kb, Kj, Sj, List.length_append, budC, e3, e4]
      refine ⟨by omega, ?_⟩
      refine aIf.neg (by omega) ?_
      simp (disch := omega) only [go_sem, seval, Kl, Kb, Kj, Sj, List.length_append, budC, e3, e4]
      refine ⟨by omega, ?_⟩
      refine aIf.neg (by omega) ?_
      simp (disch := omega) only [go_sem, seval, Kl, Kb, Kj, Sj, List.length_append, budC, e3, e4]
      refine aIf.intro (fun g2 => ?_) (fun g2 => ?_) <;> simp (disch := omega) only [go_sem, seval, Kl, Kb, Ks, Kj, Sj, Ss, List.length_append, budC]
      · refine roundL_next (jj ++ [.row [.int .i64 t, .int .i64 (spentF b u t known).1, .bool (decide ((spentF b u t known).2 ≤ b.value))] 48], don' ++ [x]) rfl ?_ ?_
        · simp (disch := omega) only [go_sem, seval, List.length_append]
        · rw [hls, hx3, decide_eq_true g1, Bool.true_and, if_pos g2]
      · refine roundL_next (jj ++ [.row [.int .i64 t, .int .i64 (spentF b u t known).1, .bool (decide ((spentF b u t known).2 ≤ b.value))] 48], don' ++ [x]) rfl ?_ ?_
        · simp (disch := omega) only [go_sem, seval, List.length_append]
        · rw [hls, hx3, decide_eq_true g1, Bool.true_and, if_neg g2]
    · simp (disch := omega) only [go_sem, seval, decide_eq_false g1, Bool.false_and, bne_self_eq_false, Kl, Kb, Kj, Sj, List.length_append, budC]
      refine ⟨by omega, by omega, ?_⟩
      refine aIf.pos hr1 ?_
      simp (disch := omega) only [go_sem, seval, Kl, Kb, Kj, Sj, List.length_append, budC]
      refine aIf.neg (by omega) ?_
      simp (disch := omega) only [go_sem, seval, Kl, Kb, Kj, Sj, List.length_append, budC]
      rcases List.eq_nil_or_concat don' with hdn | ⟨d, y, hdn⟩
      · refine aIf.neg (by rw [hdn]; simp) ?_
        simp (disch := omega) only [go_sem, seval, Kl, Kb, Kj, Sj, List.length_append, budC]
        refine aIf.intro (fun g2 => ?_) (fun g2 => ?_) <;> simp (disch := omega) only [go_sem, seval, Kl, Kb, Ks, Kj, Sj, Ss, List.length_append, budC]
        · refine roundL_next (jj ++ [.row [.int .i64 t, .int .i64 (spentF b u t known).1, .bool (false)] 48], don' ++ [x]) rfl ?_ ?_
          · simp (disch := omega) only [go_sem, seval, List.length_append]
          · rw [hls, hx3, decide_eq_false g1, Bool.false_and, if_pos g2]
        · refine roundL_next (jj ++ [.row [.int .i64 t, .int .i64 (spentF b u t known).1, .bool (false)] 48], don' ++ [x]) rfl ?_ ?_
          · simp (disch := omega) only [go_sem, seval, List.length_append]
          · rw [hls, hx3, decide_eq_false g1, Bool.false_and, if_neg g2]
      rw [List.concat_eq_append] at hdn
      have hdl : don'.length = d.length + 1 := by rw [hdn]; simp
      obtain ⟨t0, htm0, hyt⟩ := hSf y (by rw [hd, hdn]; simp)
      have hlt : t0 < t := by
        rw [hd, hdn] at hSp
        have := (List.pairwise_append.1 hSp).2.2 y (by simp) x (by simp)
        rw [hyt, hxt] at this
        exact this
      have hlt2 := hstp t0 htm0 t htm hlt
      have e3 : (S.map encS)[d.length]? = some (encS y) := by rw [hd, hdn, List.append_assoc]; exact encS_get d _ y
      rw [hyt] at e3
      simp only [encS, stepF] at e3
      have e4 : ((don'.length : Int) - 1).toNat = d.length := by omega
      refine aIf.pos (by omega) ?_
      simp (disch := omega) only [go_sem, seval, Kl, Kb, Kj, Sj, List.length_append, budC, e3, e4]
      refine ⟨by omega, ?_⟩
      refine aIf.neg (by omega) ?_
      simp (disch := omega) only [go_sem, seval, Kl, Kb, Kj, Sj, List.length_append, budC, e3, e4]
      refine ⟨by omega, ?_⟩
      refine aIf.neg (by omega) ?_
      simp (disch := omega) only [go_sem, seval, Kl, Kb, Kj, Sj, List.length_append, budC, e3, e4]
      refine aIf.intro (fun g2 => ?_) (fun g2 => ?_) <;> simp (disch := omega) only [go_sem, seval, Kl, Kb, Ks, Kj, Sj, Ss, List.length_append, budC]
      · refine roundL_next (jj ++ [.row [.int .i64 t, .int .i64 (spentF b u t known).1, .bool (false)] 48], don' ++ [x]) rfl ?_ ?_
        · simp (disch := omega) only [go_sem, seval, List.length_append]
        · rw [hls, hx3, decide_eq_false g1, Bool.false_and, if_pos g2]
      · refine roundL_next (jj ++ [.row [.int .i64 t, .int .i64 (spentF b u t known).1, .bool (false)] 48], don' ++ [x]) rfl ?_ ?_
        · simp (disch := omega) only [go_sem, seval, List.length_append]
        · rw [hls, hx3, decide_eq_false g1, Bool.false_and, if_neg g2]
  · rintro ⟨jj, don'⟩ h0
    simp only at h0
    subst h0
    simp (disch := omega) only [go_sem, seval]
    refine AWP.keep [12, 13, 15, 18] (aCode_ok Ty.mixed _ _ _ _ (by kernel_rfl) ?_)
    simp (disch := omega) only [go_sem, seval, Kb, Ks, budC]
    refine aIf.pos l1.symm ?_
    simp (disch := omega) only [go_sem, seval, Kb, Ks, budC]
    rw [l2, fineF]
    refine aIf.intro (fun g1 => ?_) (fun g1 => ?_) <;> simp (disch := omega) only [go_sem, seval, Kb, Ks, budC]
    · refine ⟨Kh _ _, ?_⟩
      rw [decide_eq_true g1]; simp
    · refine ⟨Kh _ _, ?_⟩
      rw [decide_eq_false g1]; simp
end Go.Proofs.Ytelehpccfaedjaa
