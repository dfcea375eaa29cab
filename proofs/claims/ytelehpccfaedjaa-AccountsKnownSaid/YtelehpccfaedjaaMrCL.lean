/- Texts joined: AccZe, AccZf. No conditions. -/
import Derived.Test.YtelehpccfaedjaaMrCJ
import Derived.Test.YtelehpccfaedjaaMrCK
/- AccountsKnown: the plain law. No conditions. -/
set_option linter.unusedSimpArgs false
set_option linter.unusedVariables false
namespace Go.Proofs.Ytelehpccfaedjaa
open Go Go.Proofs Go.Abs

def knownB (n : Int) (x : Bg) : Bool := decide (x.known ≤ n)
def knownU (n : Int) (x : Us) : Bool := decide (x.known ≤ n)
/-- The list from the k-th element on, and around. -/
def turnL (u : List Us) (k : Nat) : List Us := u.drop (k % u.length) ++ u.take (k % u.length)
theorem turnL_perm (u : List Us) (k : Nat) : (turnL u k).Perm u := by
  have := (List.perm_append_comm (l₁ := u.drop (k % u.length)) (l₂ := u.take (k % u.length)))
  rw [List.take_append_drop] at this
  exact this
theorem turnL_len (u : List Us) (k : Nat) : (turnL u k).length = u.length := (turnL_perm u k).length_eq
theorem turnL_get (u : List Us) (k i : Nat) (hi : i < u.length) : (turnL u k)[i]? = u[(i + k) % u.length]? := by
  have hk := Nat.mod_lt k (show 0 < u.length by omega)
  have e : (i + k) % u.length = (i + k % u.length) % u.length := by rw [Nat.add_mod, Nat.mod_eq_of_lt hi]
  rw [e, turnL]
  generalize k % u.length = m at *
  by_cases h : i + m < u.length
  · rw [Nat.mod_eq_of_lt h, List.getElem?_append_left (by rw [List.length_drop]; omega), List.getElem?_drop, Nat.add_comm]
  · have e2 : (i + m) % u.length = i + m - u.length := by
      rw [Nat.mod_eq_sub_mod (by omega), Nat.mod_eq_of_lt (by omega)]
    rw [e2, List.getElem?_append_right (by rw [List.length_drop]; omega), List.length_drop, List.getElem?_take_of_lt (by omega)]
    congr 1; omega
theorem ordB_of : ∀ (l : List Bg) (a : Int), l.Pairwise (fun x y => x.no < y.no) → (∀ x ∈ l, a < x.no) → (∀ x ∈ l, rightB x = true) → ordB a l = true
  | [], _, _, _, _ => rfl
  | x :: r, a, h1, h2, h3 => by
    rw [List.pairwise_cons] at h1
    rw [ordB, h3 x (by simp), ordB_of r x.no h1.2 h1.1 fun y hy => h3 y (by simp [hy])]
    simp [h2 x (by simp)]
theorem checkB_filter {l : List Bg} (h : checkB l = 0) (p : Bg → Bool) : checkB (l.filter p) = 0 := by
  rw [checkB] at h
  split at h
  · cases h
  split at h
  · rename_i h1 h2
    obtain ⟨k1, k2, k3⟩ := ordB_lt l (-1) h2
    have hl := List.length_filter_le p l
    rw [checkB, if_neg (by omega), if_pos (ordB_of _ _ (k1.sublist List.filter_sublist) (fun x hx => k2 x (List.mem_filter.1 hx).1) fun x hx => k3 x (List.mem_filter.1 hx).1)]
  · cases h
theorem newest_known (l : List Bg) (a n : Int) (x : Bg) : newest (l.filter (knownB n)) a n x = newest l a n x := by
  rw [newest, newest, List.all_filter]
  congr 1; funext y
  by_cases h : y.known ≤ n <;> simp [knownB, cntB, h]
theorem standF_known (l : List Bg) (k a n : Int) : standF (l.filter (knownB n)) k a n = standF l k a n := by
  rw [standF, standF, List.filter_filter]
  refine List.filter_congr fun x _ => ?_
  rw [standsF, standsF, newest_known]
  by_cases h : x.known ≤ n <;> simp [knownB, cntB, h]
theorem ofF_known (b : Bg) (n : Int) (x : Us) : (ofF b n x && knownU n x) = ofF b n x := by
  by_cases h : x.known ≤ n <;> simp [knownU, ofF, h]
theorem spentF_known {u u' : List Us} (hp : u'.Perm u) (b : Bg) (a n : Int) : spentF b (u'.filter (knownU n)) a n = spentF b u a n := by
  rw [spentF, spentF, sumP_filter, ← sumP_perm hp]
  refine sumP_congr fun x _ => ?_
  by_cases h : x.known ≤ n <;> simp [knownU, inP, ofF, h]
theorem overF_known {l : List Bg} (hl : l.Pairwise fun x y => x.no < y.no) {u u' : List Us} (hp : u'.Perm u) (n : Int) :
    overF (l.filter (knownB n)) (u'.filter (knownU n)) n = overF l u n := by
  have hl' := hl.sublist (List.filter_sublist (p := knownB n))
  refine sorted_eq (overF_sorted hl' _ _) (overF_sorted hl _ _) fun m => ?_
  rw [mem_overF hl', mem_overF hl]
  simp only [standF_known, spentF_known hp, List.mem_filter, hp.mem_iff, knownU, decide_eq_true_eq]
  constructor
  · rintro ⟨x, ⟨h1, h2⟩, h3, h4⟩; exact ⟨x, h1, h3, h4⟩
  · rintro ⟨x, h1, h3, h4⟩; exact ⟨x, ⟨h1, h3⟩, h3, h4⟩
theorem timesF_known {u u' : List Us} (hp : u'.Perm u) (b : Bg) (p n : Int) : timesF b (u'.filter (knownU n)) p n = timesF b u p n := by
  refine sorted_eq (timesF_sorted _ _ _ _) (timesF_sorted _ _ _ _) fun t => ?_
  rw [mem_timesF, mem_timesF]
  simp only [List.mem_filter, hp.mem_iff, knownU, decide_eq_true_eq]
  constructor
  · rintro ⟨x, ⟨h1, h2⟩, h3⟩; exact ⟨x, h1, h3⟩
  · rintro ⟨x, h1, h3, h4⟩
    refine ⟨x, ⟨h1, ?_⟩, h3, h4⟩
    simp only [inP, ofF, Bool.and_eq_true, decide_eq_true_eq] at h3
    exact h3.1.1
theorem stepsF_known {u u' : List Us} (hp : u'.Perm u) (b : Bg) (p n : Int) : stepsF b (u'.filter (knownU n)) p n = stepsF b u p n := by
  rw [stepsF, stepsF, timesF_known hp]
  refine List.map_congr_left fun t _ => ?_
  rw [stepF, stepF, spentF_known hp]
theorem errA_known {l : List Bg} {u u' : List Us} (he : errA l u = 0) (hp : u'.Perm u) (n : Int) :
    errA l (u'.filter (knownU n)) = 0 ∧ errA (l.filter (knownB n)) (u'.filter (knownU n)) = 0 := by
  obtain ⟨k1, k2, k3, k4, k5, k6, k7⟩ := err0 he
  have hdocs := ((usesF_iff u []).1 k6).2.1
  have hl : (u'.filter (knownU n)).length ≤ 4096 := by have h1 := List.length_filter_le (knownU n) u'; have h2 := hp.length_eq; omega
  have hr : ∀ x ∈ u'.filter (knownU n), rightU x = true := fun x hx => k7 x (hp.mem_iff.1 (List.mem_filter.1 hx).1)
  have hd : ((u'.filter (knownU n)).map fun x => x.doc).Nodup := ((hp.map _).nodup_iff.2 hdocs).sublist (List.filter_sublist.map _)
  exact ⟨errA_of k1 hl hr hd, errA_of (checkB_filter k1 _) hl hr hd⟩
theorem overR_known {l : List Bg} {u u' : List Us} (he : errA l u = 0) (hp : u'.Perm u) (n : Int) :
    overR (l.filter (knownB n)) (u'.filter (knownU n)) n = overR l u n := by
  obtain ⟨k1, k2, k3, k4, k5, k6, k7⟩ := err0 he
  rw [overR, overR, he, (errA_known he hp n).2, overF_known k5 hp]
theorem histR_known {l : List Bg} {u u' : List Us} (he : errA l u = 0) (hp : u'.Perm u) (no p n : Int) :
    histR l (u'.filter (knownU n)) no p n = histR l u no p n := by
  rw [histR, histR, he, (errA_known he hp n).1]
  simp only [stepsF_known hp]
/-- Whatever is overspent stands at some use's time. -/
def metK (l : List Bg) (u : List Us) (n m : Int) : Bool := u.any fun x => (standF l x.kind x.at_ n).any fun y => decide (y.no = m)
theorem over_met {l : List Bg} {u u' : List Us} (he : errA l u = 0) (hp : u'.Perm u) {n m : Int} (h : m ∈ overF l u n) : metK l (u'.filter (knownU n)) n m = true := by
  obtain ⟨k1, k2, k3, k4, k5, k6, k7⟩ := err0 he
  obtain ⟨x, hx, hk, b, hb, rfl, _⟩ := (mem_overF k5).1 h
  rw [metK, List.any_eq_true]
  refine ⟨x, List.mem_filter.2 ⟨hp.mem_iff.2 hx, decide_eq_true hk⟩, ?_⟩
  rw [List.any_eq_true]
  exact ⟨b, hb, decide_eq_true rfl⟩
end Go.Proofs.Ytelehpccfaedjaa

/- AccountsKnown: the code. No conditions. -/
set_option linter.unusedSimpArgs false
set_option linter.unusedVariables false
namespace Go.Proofs.Ytelehpccfaedjaa
open Go Go.Proofs Go.Abs

structure BgS where
  l : List Bg
  own : Abs.Own
  j : AH
structure BoS where
  b : Bool
  j : AH
theorem any_snocD {α : Type} (p : α → Bool) (l : List α) (x : α) : (l ++ [x]).any p = (l.any p || p x) := by simp
set_option maxHeartbeats 4000000 in
set_option maxRecDepth 100000 in
theorem accKnown_calls (Γ : Nat → Option (List AV)) (l : List Bg) (u : List Us) (no p known turn : Int) (h : AH) (hu1 : 0 ≤ turn) (hu2 : turn ≤ 255) :
    ACalls Try.prog Γ 5 [.sl (encBs l) .free, .sl (encUs u) .free, .int .i64 no, .int .i64 p, .int .i64 known, .int .u8 turn] h fun v h' => h' = h ∧ v = .bool true := by
  have c0 := fun h => right53_calls Γ l u [known] h (by simp)
  refine ACalls.drop ?_
  refine acalls_code (rs := [.tmp 12]) Try.func5 rfl rfl rfl rfl Ty.mixed (by kernel_rfl) ?_
  simp (disch := omega) only [go_sem, seval]
  refine ACalls.det (sane53_calls Γ _) ?_
  simp (disch := omega) only [go_sem, seval]
  refine ACalls.det ((c0 _).ofLoose (by simp (disch := omega) only [go_sem, seval, encI, List.map_cons, List.map_nil, loose_Bs])) ?_
  cases hr : ([known].all timeF && decide (l.length ≤ 20) && decide (u.length ≤ 20) && decide (errA l u = 0)) with
  | false => simp (disch := omega) only [go_sem, seval]
  | true =>
  simp only [List.all_cons, List.all_nil, Bool.and_true, Bool.and_eq_true, decide_eq_true_eq] at hr
  obtain ⟨⟨⟨hk, hl20⟩, hu20⟩, he⟩ := hr
  obtain ⟨k1, k2, k3, k4, k5, k6, k7⟩ := err0 he
  have hp := turnL_perm u turn.toNat
  have hpl := hp.length_eq
  have hfl := List.length_filter_le (knownB known) l
  have hfu := List.length_filter_le (knownU known) (turnL u turn.toNat)
  have c1 := fun h => pOver_calls Γ l u known h (by omega) (by omega)
  have c2 := fun h => pHistory_calls Γ l u no p known h (by omega) (by omega)
  have c3 := fun h => pOver_calls Γ (l.filter (knownB known)) ((turnL u turn.toNat).filter (knownU known)) known h (by omega) (by omega)
  have c4 := fun h => pHistory_calls Γ l ((turnL u turn.toNat).filter (knownU known)) no p known h (by omega) (by omega)
  have hhl := histR_len l u no p known
  have hol := overR_len l u known
  have c6 := fun h => sameSteps_calls Γ (histR l u no p known).1 h (by omega)
  have c5 := fun h => sameInts_calls Γ (overR l u known).1 h (by omega)
  have hov : overR l u known = (overF l u known, 0) := by rw [overR, if_neg (by simpa using he), if_pos hk]
  rw [overR_known he hp] at c3
  rw [histR_known he hp] at c4
  rw [hov] at c1 c3 c5 hol
  simp only at c1 c3 c5 hol
  have hmet : ∀ m ∈ overF l u known, metK l ((turnL u turn.toNat).filter (knownU known)) known m = true := fun m hm => over_met he hp hm
  have hru : ∀ x ∈ (turnL u turn.toNat).filter (knownU known), rightU x = true := fun x hx => k7 x (hp.mem_iff.1 (List.mem_filter.1 hx).1)
  generalize histR l u no p known = s at *
  obtain ⟨s1, s2⟩ := s
  generalize overF l u known = o at *
  simp only at c2 c4 c6 hhl
  simp (disch := omega) only [go_sem, seval]
  refine ACalls.det (c1 _) ?_
  simp (disch := omega) only [go_sem, seval]
  refine ACalls.det (c2 _) ?_
  simp (disch := omega) only [go_sem, seval, encBs_len]
  refine awp_loopL (β := BgS) l [0, 1, 2, 3, 4, 5, 13, 14, 15, 16, 17, 60, 61, 62] (fun don s => [(0, .sl (encBs l) .free), (1, .sl (encUs u) .free), (2, .int .i64 no), (3, .int .i64 p), (4, .int .i64 known), (5, .int .u8 turn), (13, .sl (encI o) .free), (14, .int .i64 0), (15, .sl (s1.map encS) .free), (16, .int .i64 s2), (17, .sl (encBs s.l) s.own), (60, .sl (encBs l) .free), (61, .int .i64 l.length), (62, .int .i64 don.length)])
    (fun s => h ++ s.j) (fun don _ s => OwnAt h s.j s.l.length s.own ∧ s.l = don.filter (knownB known)) ⟨[], .full, []⟩ ?_ (by simp) ⟨trivial, rfl⟩ Ty.mixed (by kernel_rfl) ?_ ?_
  · simp (disch := omega) only [go_sem, seval, encBs_nil]
  · rintro don x r ⟨m, own, j⟩ hd ⟨ho, hm⟩
    simp only at ho hm ⊢
    have hlen : l.length = don.length + 1 + r.length := by rw [hd]; simp; omega
    have hml : m.length ≤ don.length := by rw [hm]; exact List.length_filter_le _ _
    have e1 : (encBs l)[don.length]? = some (encB x) := by rw [hd]; exact encBs_get don r x
    have g1 : ∀ (R : AH), (h ++ (j ++ R))[h.length + j.length]? = R[0]? := fun R => by rw [hget_add, hget_zero]
    have g2 : ∀ (R : AH) (o : AObj), (h ++ (j ++ R)).set (h.length + j.length) o = h ++ (j ++ R.set 0 o) := fun R o => by rw [hset_add, hset_zero]
    have hx : AV.agg [.int .i64 x.no, .int .i64 x.at_, .int .i64 x.known, .int .i64 x.kind, .int .i64 x.period, .int .i64 x.count, .int .i64 x.value, .bool x.gone] = encB x := rfl
    simp only [encB] at e1
    simp (disch := omega) only [go_sem, seval]
    refine aIf.pos (by omega) ?_
    simp (disch := omega) only [go_sem, seval, e1, g1, g2, List.length_append]
    refine aIf.intro (fun h1 => ?_) (fun h1 => ?_) <;> simp (disch := omega) only [go_sem, seval, g1, g2]
    · rw [hx]
      refine aAp_sl (by rw [encBs_len]; exact ho.app _) (rowsOK_B _) (rowsOK_B [x]) (by simp [encBs_len]; omega) (by simp [encBs_len]; omega) fun j2 own2 ho2 _ => ?_
      rw [encBs_snoc]
      simp (disch := omega) only [go_sem, seval]
      refine roundL_next (⟨m ++ [x], own2, j2⟩ : BgS) ⟨by simpa [encBs_len] using ho2, ?_⟩ ?_ rfl
      · rw [hm, List.filter_append, List.filter_cons_of_pos (by simp [knownB, h1])]; rfl
      · simp (disch := omega) only [go_sem, seval, List.length_append]
    · refine roundL_next (⟨m, own, _⟩ : BgS) ⟨ho.app _, ?_⟩ ?_ rfl
      · rw [hm, List.filter_append, List.filter_cons_of_neg (by simp [knownB]; omega), List.filter_nil, List.append_nil]
      · simp (disch := omega) only [go_sem, seval, List.length_append]
  rintro ⟨m, own, j0⟩ ⟨_, hm⟩
  simp only at hm
  subst hm
  simp (disch := omega) only [go_sem, seval]
  refine AWP.keep [0, 1, 2, 3, 4, 5, 13, 14, 15, 16, 17] (aCode_ok Ty.mixed _ _ _ _ (by kernel_rfl) ?_)
  simp (disch := omega) only [go_sem, seval, encUs_len]
  refine awp_loopL (β := UsS) (turnL u turn.toNat) [0, 1, 2, 3, 4, 5, 13, 14, 15, 16, 17, 20, 75, 76, 77] (fun don s => [(0, .sl (encBs l) .free), (1, .sl (encUs u) .free), (2, .int .i64 no), (3, .int .i64 p), (4, .int .i64 known), (5, .int .u8 turn), (13, .sl (encI o) .free), (14, .int .i64 0), (15, .sl (s1.map encS) .free), (16, .int .i64 s2), (17, .sl (encBs (l.filter (knownB known))) own), (20, .sl (encUs s.l) s.own), (75, .sl (encUs u) .free), (76, .int .i64 u.length), (77, .int .i64 don.length)])
    (fun s => h ++ s.j) (fun don _ s => OwnAt h s.j s.l.length s.own ∧ s.l = don.filter (knownU known)) ⟨[], .full, j0⟩ ?_ rfl ⟨trivial, rfl⟩ Ty.mixed (by kernel_rfl) ?_ ?_
  · simp (disch := omega) only [go_sem, seval, encUs_nil]
  · rintro don x r ⟨m, ow, j⟩ hd ⟨ho, hm⟩
    simp only at ho hm ⊢
    have hlen : u.length = don.length + 1 + r.length := by rw [← hpl, hd]; simp; omega
    have hml : m.length ≤ don.length := by rw [hm]; exact List.length_filter_le _ _
    have e1 : (encUs u)[((don.length : Int) + turn).tmod u.length |>.toNat]? = some (encU x) := by
      have h1 : (turnL u turn.toNat)[don.length]? = some x := by rw [hd]; simp
      rw [turnL_get u _ _ (by omega)] at h1
      have h2 : (((don.length : Int) + turn).tmod u.length).toNat = (don.length + turn.toNat) % u.length := by
        rw [show (don.length : Int) + turn = ((don.length + turn.toNat : Nat) : Int) by omega, Int.tmod_eq_emod_of_nonneg (by omega)]
        omega
      rw [h2, encUs, List.getElem?_map, h1]; rfl
    have e2 : 0 ≤ ((don.length : Int) + turn).tmod u.length := by rw [Int.tmod_eq_emod_of_nonneg (by omega)]; exact Int.emod_nonneg _ (by omega)
    have g1 : ∀ (R : AH), (h ++ (j ++ R))[h.length + j.length]? = R[0]? := fun R => by rw [hget_add, hget_zero]
    have g2 : ∀ (R : AH) (o : AObj), (h ++ (j ++ R)).set (h.length + j.length) o = h ++ (j ++ R.set 0 o) := fun R o => by rw [hset_add, hset_zero]
    have hx : AV.agg [.int .i64 x.doc, .int .i64 x.kind, .int .i64 x.value, .int .i64 x.at_, .int .i64 x.known] = encU x := rfl
    simp only [encU] at e1
    simp (disch := omega) only [go_sem, seval]
    refine aIf.pos (by omega) ?_
    simp (disch := omega) only [go_sem, seval, e1, g1, g2, List.length_append, encUs_len]
    refine ⟨by omega, e2, ?_⟩
    refine aIf.intro (fun h1 => ?_) (fun h1 => ?_) <;> simp (disch := omega) only [go_sem, seval, g1, g2]
    · rw [hx]
      refine aAp_sl (by rw [encUs_len]; exact ho.app _) (rowsOK_U _) (rowsOK_U [x]) (by simp [encUs_len]; omega) (by simp [encUs_len]; omega) fun j2 own2 ho2 _ => ?_
      rw [encUs_snoc]
      simp (disch := omega) only [go_sem, seval]
      refine roundL_next (⟨m ++ [x], own2, j2⟩ : UsS) ⟨by simpa [encUs_len] using ho2, ?_⟩ ?_ rfl
      · rw [hm, List.filter_append, List.filter_cons_of_pos (by simp [knownU, h1])]; rfl
      · simp (disch := omega) only [go_sem, seval, List.length_append]
    · refine roundL_next (⟨m, ow, _⟩ : UsS) ⟨ho.app _, ?_⟩ ?_ rfl
      · rw [hm, List.filter_append, List.filter_cons_of_neg (by simp [knownU]; omega), List.filter_nil, List.append_nil]
      · simp (disch := omega) only [go_sem, seval, List.length_append]
  rintro ⟨m, ow, j1⟩ ⟨_, hm⟩
  simp only at hm
  subst hm
  simp (disch := omega) only [go_sem, seval, hpl]
  refine AWP.keep [0, 1, 2, 3, 4, 5, 13, 14, 15, 16, 17, 20] (aCode_ok Ty.mixed _ _ _ _ (by kernel_rfl) ?_)
  simp (disch := omega) only [go_sem, seval]
  refine ACalls.det ((c3 _).ofLoose (by simp (disch := omega) only [go_sem, seval, loose_Bs])) ?_
  simp (disch := omega) only [go_sem, seval]
  refine ACalls.det ((c4 _).ofLoose (by simp (disch := omega) only [go_sem, seval, loose_Bs])) ?_
  simp (disch := omega) only [go_sem, seval]
  refine ACalls.det ((c5 _).ofLoose (by simp (disch := omega) only [go_sem, seval])) ?_
  simp (disch := omega) only [go_sem, seval]
  refine ACalls.det ((c6 _).ofLoose (by simp (disch := omega) only [go_sem, seval, loose_S])) ?_
  simp (disch := omega) only [go_sem, seval, encI_len]
  have hUl : ((turnL u turn.toNat).filter (knownU known)).length ≤ 20 := by omega
  generalize (turnL u turn.toNat).filter (knownU known) = U at *
  refine awp_loopL (β := AH) o [0, 4, 20, 138, 139, 140] (fun don _ => [(0, .sl (encBs l) .free), (4, .int .i64 known), (20, .sl (encUs U) ow), (138, .sl (encI o) .free), (139, .int .i64 o.length), (140, .int .i64 don.length)])
    (fun j => h ++ j) (fun _ _ _ => True) j1 ?_ rfl trivial Ty.mixed (by kernel_rfl) ?_ ?_
  · simp (disch := omega) only [go_sem, seval]
  · rintro don m r j hd _
    have hlen : o.length = don.length + 1 + r.length := by rw [hd]; simp; omega
    have e1 : (encI o)[don.length]? = some (.int .i64 m) := by rw [hd]; exact encI_get don r m
    have hm := hmet m (by rw [hd]; simp)
    simp (disch := omega) only [go_sem, seval]
    refine aIf.pos (by omega) ?_
    simp (disch := omega) only [go_sem, seval, e1, encI_len, encUs_len]
    refine awp_loopL (β := BoS) U [0, 4, 20, 28, 29, 138, 139, 140, 144, 145, 146] (fun don2 s => [(0, .sl (encBs l) .free), (4, .int .i64 known), (20, .sl (encUs U) ow), (28, .int .i64 m), (29, .bool s.b), (138, .sl (encI o) .free), (139, .int .i64 o.length), (140, .int .i64 don.length), (144, .sl (encUs U) ow), (145, .int .i64 U.length), (146, .int .i64 don2.length)])
      (fun s => h ++ s.j) (fun don2 _ s => s.b = metK l don2 known m) ⟨false, j⟩ ?_ rfl rfl Ty.mixed (by kernel_rfl) ?_ ?_
    · simp (disch := omega) only [go_sem, seval]
    · rintro don2 x r2 ⟨b, j⟩ hd2 hb
      simp only at hb ⊢
      have hlen2 : U.length = don2.length + 1 + r2.length := by rw [hd2]; simp; omega
      have e2 : (encUs U)[don2.length]? = some (encU x) := by rw [hd2]; exact encUs_get don2 r2 x
      have hxf := rightU_facts (hru x (by rw [hd2]; simp))
      have g1 : ∀ (R : AH), (h ++ (j ++ R))[h.length + j.length]? = R[0]? := fun R => by rw [hget_add, hget_zero]
      have g2 : ∀ (R : AH) (o : AObj), (h ++ (j ++ R)).set (h.length + j.length) o = h ++ (j ++ R.set 0 o) := fun R o => by rw [hset_add, hset_zero]
      have c7 := fun h => pStanding_calls Γ l x.kind x.at_ known h (by omega)
      have hkx : inR x.kind 0 15 = true := by simp only [inR, Bool.and_eq_true, decide_eq_true_eq]; omega
      have htx : timeF x.at_ = true := by simp only [timeF, show END = 1099511627776 from rfl, Bool.and_eq_true, decide_eq_true_eq]; omega
      rw [standR, if_neg (by simpa using k1), if_pos (by rw [hkx, htx, hk]; rfl)] at c7
      simp only at c7
      have hsl : (standF l x.kind x.at_ known).length ≤ l.length := List.length_filter_le _ _
      have hmk : metK l (don2 ++ [x]) known m = (metK l don2 known m || (standF l x.kind x.at_ known).any fun y => decide (y.no = m)) := any_snocD _ _ _
      generalize standF l x.kind x.at_ known = S at *
      simp only [encU] at e2
      simp (disch := omega) only [go_sem, seval]
      refine aIf.pos (by omega) ?_
      simp (disch := omega) only [go_sem, seval, e2, g1, g2, List.length_append, encUs_len]
      refine ACalls.det ((c7 _).ofLoose (by simp (disch := omega) only [go_sem, seval, loose_Bs])) ?_
      simp (disch := omega) only [go_sem, seval, encBs_len]
      refine awp_loopL (β := BoS) S [0, 4, 20, 28, 29, 138, 139, 140, 144, 145, 146, 162, 163, 164] (fun don3 s => [(0, .sl (encBs l) .free), (4, .int .i64 known), (20, .sl (encUs U) ow), (28, .int .i64 m), (29, .bool s.b), (138, .sl (encI o) .free), (139, .int .i64 o.length), (140, .int .i64 don.length), (144, .sl (encUs U) ow), (145, .int .i64 U.length), (146, .int .i64 don2.length), (162, .sl (encBs S) .free), (163, .int .i64 S.length), (164, .int .i64 don3.length)])
        (fun s => h ++ s.j) (fun don3 _ s => s.b = (metK l don2 known m || don3.any fun y => decide (y.no = m))) ⟨b, _⟩ ?_ rfl ?_ Ty.mixed (by kernel_rfl) ?_ ?_
      · simp (disch := omega) only [go_sem, seval]
      · simp [hb]
      · rintro don3 y r3 ⟨b3, j3⟩ hd3 hb3
        simp only at hb3 ⊢
        have hlen3 : S.length = don3.length + 1 + r3.length := by rw [hd3]; simp; omega
        have e3 : (encBs S)[don3.length]? = some (encB y) := by rw [hd3]; exact encBs_get don3 r3 y
        have g1 : ∀ (R : AH), (h ++ (j3 ++ R))[h.length + j3.length]? = R[0]? := fun R => by rw [hget_add, hget_zero]
        have g2 : ∀ (R : AH) (o : AObj), (h ++ (j3 ++ R)).set (h.length + j3.length) o = h ++ (j3 ++ R.set 0 o) := fun R o => by rw [hset_add, hset_zero]
        simp only [encB] at e3
        simp (disch := omega) only [go_sem, seval]
        refine aIf.pos (by omega) ?_
        simp (disch := omega) only [go_sem, seval, e3, g1, g2, List.length_append, encBs_len]
        cases b3 with
        | true =>
          simp (disch := omega) only [go_sem, seval, g1]
          refine roundL_next (⟨true, _⟩ : BoS) (by rw [any_snocD, ← Bool.or_assoc, ← hb3]; rfl) ?_ rfl
          simp (disch := omega) only [go_sem, seval, List.length_append]
        | false =>
          simp (disch := omega) only [go_sem, seval, g1]
          refine roundL_next (⟨decide (y.no = m), _⟩ : BoS) (by rw [any_snocD, ← Bool.or_assoc, ← hb3]; rfl) ?_ rfl
          simp (disch := omega) only [go_sem, seval, List.length_append]
      · rintro ⟨b3, j3⟩ hb3
        simp only at hb3 ⊢
        simp (disch := omega) only [go_sem, seval]
        refine AWP.keep [0, 4, 20, 28, 29, 138, 139, 140, 144, 145, 146] (aCode_ok Ty.mixed _ _ _ _ (by kernel_rfl) ?_)
        simp (disch := omega) only [go_sem, seval]
        refine roundL_next (⟨b3, j3⟩ : BoS) (by rw [hmk, hb3]) ?_ rfl
        simp (disch := omega) only [go_sem, seval, List.length_append]
    · rintro ⟨b, j2⟩ hb
      simp only at hb
      rw [hm] at hb
      subst hb
      simp (disch := omega) only [go_sem, seval]
      refine AWP.keep [0, 4, 20, 29, 138, 139, 140] (aCode_ok Ty.mixed _ _ _ _ (by kernel_rfl) ?_)
      simp (disch := omega) only [go_sem, seval]
      refine AWP.keep [0, 4, 20, 138, 139, 140] (aCode_ok Ty.mixed _ _ _ _ (by kernel_rfl) ?_)
      simp (disch := omega) only [go_sem, seval]
      refine roundL_next j2 trivial ?_ rfl
      simp (disch := omega) only [go_sem, seval, List.length_append]
  · rintro j2 _
    simp (disch := omega) only [go_sem, seval]
    refine AWP.keep [] (aCode_ok Ty.mixed _ _ _ _ (by kernel_rfl) ?_)
    simp (disch := omega) only [go_sem, seval]
end Go.Proofs.Ytelehpccfaedjaa
