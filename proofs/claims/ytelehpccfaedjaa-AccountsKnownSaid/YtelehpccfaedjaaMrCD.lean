/- Texts joined: AccN, AccS, AccT. No conditions. -/
import Derived.Test.YtelehpccfaedjaaMrCC
import Derived.Test.YtelehpccfaedjaaMrG
/- The program's add, fine, spent, Spent. No conditions. -/
set_option linter.unusedSimpArgs false
set_option linter.unusedVariables false
namespace Go.Proofs.Ytelehpccfaedjaa
open Go Go.Proofs Go.Abs

set_option maxRecDepth 100000 in
theorem add_calls (Γ : Nat → Option (List AV)) (c v : Int) (x : Us) (h : AH) (hc : 0 ≤ c ∧ c ≤ 1000000) (hv : 0 ≤ v ∧ v ≤ 4611686018427387904) (hx : 0 ≤ x.value ∧ x.value ≤ 1099511627776) :
    ACalls Try.prog Γ 48 [.agg [.int .i64 c, .int .i64 v], encU x] h fun r h' => h' = h ∧ r = .agg [.int .i64 (c + 1), .int .i64 (v + x.value)] := by
  rw [encU]
  refine ACalls.drop ?_
  refine acalls_code (rs := [.cell 4 77]) Try.func48 rfl rfl rfl rfl Ty.mixed (by kernel_rfl) ?_
  simp (disch := omega) only [go_sem, seval]
set_option maxRecDepth 100000 in
theorem fine_calls (Γ : Nat → Option (List AV)) (b : Bg) (u : List Us) (known c v : Int) (h : AH) :
    ACalls Try.prog Γ 43 [bookV b u known, .agg [.int .i64 c, .int .i64 v]] h fun r h' => h' = h ∧ r = .bool (fineF b (c, v)) := by
  rw [bookV, bookC, fineF]
  refine ACalls.drop ?_
  refine acalls_code (rs := [.tmp 4]) Try.func43 rfl rfl rfl rfl Ty.mixed (by kernel_rfl) ?_
  simp (disch := omega) only [go_sem, seval]
  refine aIf.intro (fun h1 => ?_) (fun h1 => ?_) <;> simp (disch := omega) only [go_sem, seval]
  · rw [decide_eq_true h1]; simp
  · rw [decide_eq_false h1]; simp
def leT (t : Int) (x : Us) : Bool := decide (x.at_ ≤ t)
theorem spentF_in (b : Bg) (u : List Us) (t n : Int) : spentF b u t n = sumP (leT t) (u.filter (inP b n (t / b.period))) := by
  rw [spentF, sumP_filter]
  exact sumP_congr fun x _ => by rw [leT, Bool.and_comm]
set_option maxHeartbeats 2000000 in
set_option maxRecDepth 100000 in
theorem pspent_calls (Γ : Nat → Option (List AV)) (b : Bg) (u : List Us) (at_ known : Int) (h : AH) (hb : rightB b = true) (hu : ∀ x ∈ u, rightU x = true) (hl : u.length ≤ 100000) (ha : timeF at_ = true) :
    ACalls Try.prog Γ 39 [bookV b u known, .int .i64 at_] h fun r h' => h' = h ∧ r = .agg [.int .i64 (spentF b u at_ known).1, .int .i64 (spentF b u at_ known).2] := by
  have hpd := rightB_period hb
  have hat := timeF_facts ha
  obtain ⟨q1, q2, q3⟩ := div_facts hat.1 hpd.1
  have c1 := fun h => in_calls Γ b u known (at_ / b.period) h
  rw [spentF_in]
  obtain ⟨us, hus⟩ : ∃ us, us = u.filter (inP b known (at_ / b.period)) := ⟨_, rfl⟩
  have husm : ∀ x ∈ us, rightU x = true := fun x hx => hu x (List.mem_filter.1 (by rw [← hus]; exact hx)).1
  have husl : us.length ≤ u.length := by rw [hus]; exact List.length_filter_le _ _
  have c2 := fun L => in1_calls Γ L b u known (at_ / b.period) hb hu (by omega)
  rw [← hus] at c2 ⊢
  rw [inV] at c1
  simp only [bookV, bookC] at c1 c2 ⊢
  refine ACalls.drop ?_
  refine acalls_code (rs := [.cell 4 77]) Try.func39 rfl rfl rfl rfl Ty.mixed (by kernel_rfl) ?_
  simp (disch := omega) only [go_sem, seval]
  refine ⟨by omega, ?_⟩
  rw [q1]
  refine aCallF.intro (fun _ => c1 _) ?_
  simp (disch := omega) only [go_sem, seval]
  refine AWP.keep [2, 3, 4, 12] ?_
  simp (disch := omega) only [go_sem, seval]
  refine awp_rangeFuncL rfl (fun li hli => ?_)
  simp (disch := omega) only [go_sem, seval]
  obtain ⟨S, hS⟩ : ∃ S : List Us → Int × Int, ∀ d, S d = sumP (leT at_) d := ⟨_, fun _ => rfl⟩
  obtain ⟨H, hH⟩ : ∃ H : Int → Int → AObj → AH, ∀ c v lo, H c v lo = h ++ [.row (bookC b u known) 72, .row [.int .i64 at_] 3, .row [.int .i64 c, .int .i64 v] 77, lo] := ⟨_, fun _ _ _ => rfl⟩
  obtain ⟨hp, hhp⟩ : ∃ hp : List Us → AH, ∀ d, hp d = H (S d).1 (S d).2 (.loop .ready none li) := ⟨_, fun _ => rfl⟩
  have Hn : ∀ c v lo, (H c v lo).length = h.length + 4 := fun c v lo => by rw [hH]; simp
  have hn : ∀ d, (hp d).length = h.length + 4 := fun d => by rw [hhp, Hn]
  have K3 : ∀ c v lo (R : AH), (H c v lo ++ R)[h.length + 1]? = some (.row [.int .i64 at_] 3) := fun c v lo R => by rw [hH]; simp
  have K4 : ∀ c v lo (R : AH), (H c v lo ++ R)[h.length + 2]? = some (.row [.int .i64 c, .int .i64 v] 77) := fun c v lo R => by rw [hH]; simp
  have KL : ∀ c v lo (R : AH), (H c v lo ++ R)[h.length + 3]? = some lo := fun c v lo R => by rw [hH]; simp
  have S4 : ∀ c v lo (R : AH) c' v', (H c v lo ++ R).set (h.length + 2) (.row [.int .i64 c', .int .i64 v'] 77) = H c' v' lo ++ R := fun c v lo R c' v' => by rw [hH, hH]; simp
  have SL : ∀ c v lo (R : AH) lo', (H c v lo ++ R).set (h.length + 3) lo' = H c v lo' ++ R := fun c v lo R lo' => by rw [hH, hH]; simp
  have k1 : ∀ c v lo (jj R : AH), (H c v lo ++ (jj ++ R))[h.length + 4 + jj.length]? = R[0]? := fun c v lo jj R => by rw [← Hn c v lo, hget_add, hget_zero]
  have k2 : ∀ c v lo (jj R : AH) (o : AObj), (H c v lo ++ (jj ++ R)).set (h.length + 4 + jj.length) o = H c v lo ++ (jj ++ R.set 0 o) := fun c v lo jj R o => by rw [← Hn c v lo, hset_add, hset_zero]
  refine ACalls.mono ((c2 (h.length + 3) hp (h.length + 4) hn ?_).heap ?_) ?_
  · rintro don x jj ⟨r, hd⟩
    have hxm := husm x (by rw [hd]; simp)
    have hx := rightU_facts hxm
    have hsum := sum_facts (p := leT at_) (l := don) fun y hy => husm y (by rw [hd]; simp [hy])
    have hdl : don.length ≤ us.length := by rw [hd]; simp
    rw [← hS] at hsum
    have hSx : S (don ++ [x]) = if leT at_ x = true then ((S don).1 + 1, (S don).2 + x.value) else S don := by rw [hS, hS, sumP_snoc]
    have hc := fun h => add_calls Γ (S don).1 (S don).2 x h (by omega) (by omega) (by omega)
    rw [hhp, hhp]
    generalize S (don ++ [x]) = s' at *
    generalize S don = s at *
    obtain ⟨c, v⟩ := s
    simp only at hsum hSx hc ⊢
    refine ayield_L hli (KL _ _ _ _) rfl rfl Ty.mixed (by kernel_rfl) (by kernel_rfl) ?_
    simp only [encU] at hc ⊢
    simp (disch := omega) only [go_sem, seval, Hn, K3, K4, KL, SL, k1, k2, List.length_append]
    refine aIf.intro (fun h1 => ?_) (fun h1 => ?_) <;> simp (disch := omega) only [go_sem, seval, Hn, K3, K4, KL, SL, k1, k2, List.length_append]
    · refine ACalls.det (hc _) ?_
      simp (disch := omega) only [go_sem, seval, Hn, K3, K4, KL, SL, S4, k1, k2, List.length_append]
      rw [if_pos (by rw [leT, decide_eq_true h1])] at hSx
      subst hSx
      exact ⟨_, rfl⟩
    · rw [if_neg (by rw [leT, decide_eq_false h1]; simp)] at hSx
      subst hSx
      exact ⟨_, rfl⟩
  · rw [hhp, hH, hS]
    simp [sumP, bookC]
  · rintro _ _ ⟨jj, rfl⟩
    refine ⟨h ++ [.row (bookC b u known) 72, .row [.int .i64 at_] 3, .row [.int .i64 (S us).1, .int .i64 (S us).2] 77], .ready, none, jj, ?_, ?_, by simp, ?_⟩
    · rw [hhp, hH]; simp
    · have q1 := LoopKept.set (h := h ++ [.row (bookC b u known) 72, .row [.int .i64 at_] 3, .row [.int .i64 0, .int .i64 0] 77])
        (i := h.length + 2) (ob := .row [.int .i64 (S us).1, .int .i64 (S us).2] 77) (RBs.cons (.int _ _) (RBs.cons (.int _ _) (RBs.nil _))) (by simp)
      simp only [hset_add, List.set_cons_succ, List.set_cons_zero] at q1
      exact q1
    · simp (disch := omega) only [go_sem, seval]
      refine AWP.keep [4] (aCode_ok Ty.mixed _ _ _ _ (by kernel_rfl) ?_)
      simp (disch := omega) only [go_sem, seval]
      rw [hS]
set_option maxHeartbeats 1000000 in
set_option maxRecDepth 100000 in
theorem pSpent_calls (Γ : Nat → Option (List AV)) (l : List Bg) (u : List Us) (no at_ known : Int) (h : AH) (hl : l.length ≤ 100000) (hu : u.length ≤ 100000) :
    ACalls Try.prog Γ 15 [.sl (encBs l) .free, .sl (encUs u) .free, .int .i64 no, .int .i64 at_, .int .i64 known] h fun v h' => h' = h ∧ v = .tuple [.int .i64 (spentR l u no at_ known).1, .int .i64 (spentR l u no at_ known).2.1, .int .i64 (spentR l u no at_ known).2.2] := by
  have c1 := fun h => pexamine_calls Γ l u h (by omega) (by omega)
  have c2 := fun h => pfind_calls Γ l u no known h (by omega)
  have c3 := fun o h => pwithin2 Γ 1099511627776 at_ known o h
  have ht : (inR at_ 0 (1099511627776 - 1) && inR known 0 (1099511627776 - 1)) = (timeF at_ && timeF known) := by
    rw [← timeF_in, ← timeF_in]; rfl
  rw [ht] at c3
  rw [spentR, findF_eq]
  refine ACalls.drop ?_
  refine acalls_code (rs := [.tmp 10, .tmp 11, .tmp 12]) Try.func15 rfl rfl rfl rfl Ty.mixed (by kernel_rfl) ?_
  simp (disch := omega) only [go_sem, seval]
  refine ACalls.det (c1 _) ?_
  simp (disch := omega) only [go_sem, seval]
  refine aIf.intro (fun h1 => ?_) (fun h1 => ?_) <;> simp (disch := omega) only [go_sem, seval]
  rotate_left
  · rw [if_pos h1]
  rw [if_neg (by simpa using h1)]
  obtain ⟨k1, k2, k3, k4, k5, k6, k7⟩ := err0 h1
  refine ACalls.det (c2 _) ?_
  cases hf : l.find? (isNo no) with
  | none =>
    simp only [bookV, bookC, Option.isSome_none]
    simp (disch := omega) only [go_sem, seval]
  | some b =>
  have hbl : b ∈ l := List.mem_of_find?_eq_some hf
  have c4 := fun ha h => pspent_calls Γ b u at_ known h (k4 b hbl) k7 (by omega) ha
  simp only [bookV, bookC, Option.isSome_some] at c4 ⊢
  simp (disch := omega) only [go_sem, seval]
  refine ACalls.det (c3 _ _) ?_
  cases ha : timeF at_ with
  | false => simp (disch := omega) only [go_sem, seval]
  | true =>
  cases hk : timeF known with
  | false => simp (disch := omega) only [go_sem, seval]
  | true =>
  simp (disch := omega) only [go_sem, seval]
  refine ACalls.det (c4 ha _) ?_
  simp (disch := omega) only [go_sem, seval]
end Go.Proofs.Ytelehpccfaedjaa

/- The program's standing, Standing. No conditions. -/
set_option linter.unusedSimpArgs false
set_option linter.unusedVariables false
namespace Go.Proofs.Ytelehpccfaedjaa
open Go Go.Proofs Go.Abs

abbrev AbM := List ((Int × Int) × Bg)
def updM (k : Int × Int) (y : Bg) : AbM → AbM
  | [] => [(k, y)]
  | e :: r => if e.1 = k then (k, y) :: r else e :: updM k y r
def getM (k : Int × Int) : AbM → Option Bg
  | [] => none
  | e :: r => if e.1 = k then some e.2 else getM k r
def keyV (k : Int × Int) : AV := .agg [.int .i64 k.1, .int .i64 k.2]
def entsM : Nat → AbM → List (Nat × AV × AV)
  | _, [] => []
  | i, e :: r => (i, keyV e.1, encB e.2) :: entsM (i + 1) r
def L2 : List (Nat × CK) := [(0, .int), (1, .int)]
def idxM (k : Int × Int) : AbM → Option Nat
  | [] => none
  | e :: r => if e.1 = k then some 0 else (idxM k r).map (· + 1)
theorem eqK_M (k k' : Int × Int) : eqK L2 (keyV k) (keyV k') = some (decide (k' = k)) := by
  obtain ⟨a, b⟩ := k
  obtain ⟨c, d⟩ := k'
  have : (decide ((c, d) = (a, b))) = (decide (a = c) && decide (b = d)) := by
    rw [← Bool.decide_and, decide_eq_decide, Prod.mk.injEq]
    exact ⟨fun ⟨h1, h2⟩ => ⟨h1.symm, h2.symm⟩, fun ⟨h1, h2⟩ => ⟨h1.symm, h2.symm⟩⟩
  rw [this]
  simp [eqK, keyV, L2, eqS, andO, eqCellO, eqCell]
theorem find_M (k : Int × Int) : ∀ (m : AbM) (i : Nat), aFindS L2 (keyV k) (entsM i m) = some (idxM k m)
  | [], _ => rfl
  | e :: r, i => by
    rw [entsM, aFindS, eqK_M, find_M k r (i + 1), idxM]
    by_cases h : e.1 = k
    · simp [h, pairO]
    · simp [h, pairO]
theorem entsM_get : ∀ (m : AbM) (i j : Nat), (entsM i m)[j]? = (m[j]?).map fun e => (i + j, keyV e.1, encB e.2)
  | [], i, j => by simp [entsM]
  | e :: r, i, 0 => by simp [entsM]
  | e :: r, i, j + 1 => by
    rw [entsM, List.getElem?_cons_succ, List.getElem?_cons_succ, entsM_get r (i + 1) j]
    congr 1
    funext x
    rw [show i + 1 + j = i + (j + 1) from by omega]
theorem idxM_get (k : Int × Int) : ∀ m : AbM, (idxM k m = none ∧ getM k m = none) ∨ ∃ j y, idxM k m = some j ∧ m[j]? = some (k, y) ∧ getM k m = some y
  | [] => .inl ⟨rfl, rfl⟩
  | e :: r => by
    by_cases h : e.1 = k
    · exact .inr ⟨0, e.2, by simp [idxM, h], by simp [← h], by simp [getM, h]⟩
    · rcases idxM_get k r with ⟨h1, h2⟩ | ⟨j, y, h1, h2, h3⟩
      · exact .inl ⟨by simp [idxM, h, h1], by simp [getM, h, h2]⟩
      · exact .inr ⟨j + 1, y, by simp [idxM, h, h1], by simpa using h2, by simp [getM, h, h3]⟩
def lkV (ok : Bool) (z : AV) : Option Bg → AV
  | some e => if ok then .tuple [encB e, .bool true] else encB e
  | none => if ok then .tuple [z, .bool false] else z
theorem look_M (ok : Bool) (z : AV) (a b : Int) (m : AbM) (K : AV → Prop) : aLkF ok z (aFindS [(0, .int), (1, .int)] (.agg [.int .i64 a, .int .i64 b]) (entsM 0 m)) (entsM 0 m) K = K (lkV ok z (getM (a, b) m)) := by
  rw [show aFindS [(0, .int), (1, .int)] (.agg [.int .i64 a, .int .i64 b]) (entsM 0 m) = some (idxM (a, b) m) from find_M (a, b) m 0]
  rcases idxM_get (a, b) m with ⟨h1, h2⟩ | ⟨j, y, h1, h2, h3⟩
  · rw [h1, h2]; rfl
  · rw [h1, h3]
    have hg := entsM_get m 0 j
    rw [h2] at hg
    simp [aLkF, hg, lkV]
theorem updM_len (k : Int × Int) (y : Bg) : ∀ m : AbM, (idxM k m = none ∧ updM k y m = m ++ [(k, y)]) ∨ ∃ j, idxM k m = some j ∧ updM k y m = m.set j (k, y)
  | [] => .inl ⟨rfl, rfl⟩
  | e :: r => by
    by_cases h : e.1 = k
    · exact .inr ⟨0, by simp [idxM, h], by simp [updM, h]⟩
    · rcases updM_len k y r with ⟨h1, h2⟩ | ⟨j, h1, h2⟩
      · exact .inl ⟨by simp [idxM, h, h1], by simp [updM, h, h2]⟩
      · exact .inr ⟨j + 1, by simp [idxM, h, h1], by simp [updM, h, h2]⟩
theorem put_M (a b : Int) (y : Bg) (m : AbM) : (aFindS [(0, .int), (1, .int)] (.agg [.int .i64 a, .int .i64 b]) (entsM 0 m)).bind (putEnt (entsM 0 m) m.length (.agg [.int .i64 a, .int .i64 b]) (encB y)) = some (.map (entsM 0 (updM (a, b) y m)) (updM (a, b) y m).length) := by
  rw [show aFindS [(0, .int), (1, .int)] (.agg [.int .i64 a, .int .i64 b]) (entsM 0 m) = some (idxM (a, b) m) from find_M (a, b) m 0]
  rcases updM_len (a, b) y m with ⟨h1, h2⟩ | ⟨j, h1, h2⟩
  · rw [h1, h2]
    simp only [Option.bind_some, putEnt]
    congr 2
    · apply List.ext_getElem?
      intro i
      rw [entsM_get, List.getElem?_append, List.getElem?_append]
      have hl : (entsM 0 m).length = m.length := by
        have : ∀ (m : AbM) (i : Nat), (entsM i m).length = m.length := fun m => by induction m with
          | nil => intro i; rfl
          | cons e r ih => intro i; simp [entsM, ih]
        exact this m 0
      rw [hl]
      split
      · rw [entsM_get]
      · rename_i hi
        cases hq : i - m.length with
        | zero => rw [show i = m.length by omega]; simp [keyV]
        | succ n => simp
    · simp
  · rw [h1, h2]
    rcases idxM_get (a, b) m with ⟨g1, _⟩ | ⟨j', y', g1, g2, _⟩
    · rw [g1] at h1; cases h1
    · rw [g1] at h1; cases h1
      simp only [Option.bind_some, putEnt, entsM_get, g2, Option.map_some, List.length_set]
      congr 2
      apply List.ext_getElem?
      intro i
      rw [entsM_get, List.getElem?_set, List.getElem?_set, entsM_get]
      have hj := (List.getElem?_eq_some_iff.1 g2).1
      have hl : (entsM 0 m).length = m.length := by
        have : ∀ (m : AbM) (i : Nat), (entsM i m).length = m.length := fun m => by induction m with
          | nil => intro i; rfl
          | cons e r ih => intro i; simp [entsM, ih]
        exact this m 0
      split
      · rename_i h; subst h
        simp [hj, hl, keyV]
      · rfl
theorem getM_upd (k k' : Int × Int) (y : Bg) : ∀ m : AbM, getM k' (updM k y m) = if k = k' then some y else getM k' m
  | [] => by simp only [updM, getM]
  | e :: r => by
    by_cases h : e.1 = k
    · simp only [updM, h, if_true, getM]
      by_cases hk : k = k' <;> simp [hk]
    · simp only [updM, h, if_false, getM, getM_upd k k' y r]
      by_cases hk : e.1 = k'
      · have : k ≠ k' := fun e' => h (hk.trans e'.symm)
        simp [hk, this]
      · simp [hk]
theorem eqB (e x : Bg) (hg : x.gone = false) : (decide (e.no = x.no) && (decide (e.at_ = x.at_) && (decide (e.known = x.known) && (decide (e.kind = x.kind) && (decide (e.period = x.period) && (decide (e.count = x.count) && (decide (e.value = x.value) && e.gone == false))))))) = decide (e = x) := by
  obtain ⟨a1, a2, a3, a4, a5, a6, a7, a8⟩ := e
  obtain ⟨b1, b2, b3, b4, b5, b6, b7, b8⟩ := x
  simp only at hg
  subst hg
  rw [Bool.eq_iff_iff]
  simp [Bg.mk.injEq]
set_option maxHeartbeats 2000000 in
set_option maxRecDepth 100000 in
theorem pstanding_calls (Γ : Nat → Option (List AV)) (l : List Bg) (k at_ known : Int) (h : AH) (hl : l.length ≤ 1000000) (hr : ∀ b ∈ l, rightB b = true) (hp : l.Pairwise fun x y => x.no < y.no) :
    ACalls Try.prog Γ 55 [.sl (encBs l) .free, .int .i64 k, .int .i64 at_, .int .i64 known] h fun v h' => h' = h ∧ v = .sl (encBs (standF l k at_ known)) .free := by
  refine ACalls.dropL ?_
  refine acalls_code (rs := [.tmp 8]) Try.func55 rfl rfl rfl rfl Ty.mixed (by kernel_rfl) ?_
  simp (disch := omega) only [go_sem, seval, encBs_len]
  obtain ⟨K, hK⟩ : ∃ K : AbM → AH, ∀ m, K m = h ++ [.map (entsM 0 m) m.length] := ⟨_, fun _ => rfl⟩
  have Kl : ∀ m, (K m).length = h.length + 1 := fun m => by rw [hK]; simp
  have Km : ∀ m (R : AH), (K m ++ R)[h.length]? = some (.map (entsM 0 m) m.length) := fun ks R => by rw [hK]; simp
  have Ks : ∀ m (R : AH) m', (K m ++ R).set h.length (.map (entsM 0 m') m'.length) = K m' ++ R := fun ks R ks' => by rw [hK, hK]; simp [hset_zero]
  have Kj : ∀ m (j R : AH), (K m ++ (j ++ R))[h.length + 1 + j.length]? = R[0]? := by intro m j R; rw [← Kl m, hget_add, hget_zero]
  have Sj : ∀ m (j R : AH) (o : AObj), (K m ++ (j ++ R)).set (h.length + 1 + j.length) o = K m ++ (j ++ R.set 0 o) := by intro m j R o; rw [← Kl m, hset_add, hset_zero]
  have Kj1 : ∀ m (j R : AH) (n : Nat), (K m ++ (j ++ R))[h.length + 1 + (j.length + n)]? = R[n]? := by intro m j R n; rw [← Kl m, hget_add, hget_add]
  have Sj1 : ∀ m (j R : AH) (n : Nat) (o : AObj), (K m ++ (j ++ R)).set (h.length + 1 + (j.length + n)) o = K m ++ (j ++ R.set n o) := by intro m j R n o; rw [← Kl m, hset_add, hset_add]
  have Kh : ∀ m (R : AH), ∃ l, K m ++ R = h ++ l := fun ks R => ⟨_, by rw [hK, List.append_assoc]⟩
  refine awp_loopL (β := AH × AbM) l [0, 2, 3, 1, 8, 9, 18, 19, 20] (fun don _ => [(0, .sl (encBs l) .free), (2, .int .i64 at_), (3, .int .i64 known), (1, .int .i64 k), (8, .sl [] .full), (9, .map (some h.length)), (18, .sl (encBs l) .free), (19, .int .i64 l.length), (20, .int .i64 don.length)]) (fun s => K s.2 ++ s.1) (fun don r s => ∀ key, getM key s.2 = latest k at_ known key don) ([], []) ?_ (by simp [hK, entsM]) (by intro key; rfl) Ty.mixed (by kernel_rfl) ?_ ?_
  · simp (disch := omega) only [go_sem, seval]
  · rintro don x r ⟨jj, m⟩ hd hm
    simp only at hm ⊢
    have hlen : l.length = don.length + 1 + r.length := by rw [hd]; simp; omega
    have e1 : (encBs l)[don.length]? = some (encB x) := by rw [hd]; exact encBs_get don r x
    simp only [encB] at e1
    simp (disch := omega) only [go_sem, seval]
    refine aIf.pos (by omega) ?_
    simp (disch := omega) only [go_sem, seval, e1, Kl, Km, Kj, Sj, Kj1, Sj1, List.length_append]
    have skip : (∀ key, cntK k at_ known key x = false) → ∀ key, getM key m = latest k at_ known key (don ++ [x]) := fun e key => by
      rw [latest_snoc, ← hm key, stepL.eq_def, if_neg (by rw [e key]; simp)]
    refine aIf.intro (fun h1 => ?_) (fun h1 => ?_) <;> simp (disch := omega) only [go_sem, seval, e1, Kl, Km, Kj, Sj, Kj1, Sj1, List.length_append]
    · refine roundL_next (jj ++ [.row (encB x).cells 40], m) (skip fun key => by simp [cntK, cntB, show ¬ x.at_ ≤ at_ by omega]) ?_ rfl
      simp (disch := omega) only [go_sem, seval, List.length_append]
    refine aIf.intro (fun h2 => ?_) (fun h2 => ?_) <;> simp (disch := omega) only [go_sem, seval, e1, Kl, Km, Kj, Sj, Kj1, Sj1, List.length_append]
    · refine roundL_next (jj ++ [.row (encB x).cells 40], m) (skip fun key => by simp [cntK, cntB, show ¬ x.known ≤ known by omega]) ?_ rfl
      simp (disch := omega) only [go_sem, seval, List.length_append]
    refine aIf.intro (fun h3 => ?_) (fun h3 => ?_) <;> simp (disch := omega) only [go_sem, seval, e1, Kl, Km, Kj, Sj, Kj1, Sj1, List.length_append]
    · skip
      have hck : cntK k at_ known (x.kind, x.period) x = true := by simp [cntK, cntB, forK, h3, show x.at_ ≤ at_ by omega, show x.known ≤ known by omega]
      have hother : ∀ key, key ≠ (x.kind, x.period) → cntK k at_ known key x = false := fun key hne => by
        simp only [cntK, Bool.and_eq_false_iff, decide_eq_false_iff_not]; exact .inr fun e => hne e.symm
      have hkeep : (∀ e, getM (x.kind, x.period) m = some e → ¬ e.at_ ≤ x.at_) → getM (x.kind, x.period) m ≠ none → ∀ key, getM key m = latest k at_ known key (don ++ [x]) := fun e1 e2 key => by
        rw [latest_snoc, ← hm key, stepL.eq_def]
        by_cases hkey : key = (x.kind, x.period)
        · rw [hkey, if_pos hck]
          cases hg : getM (x.kind, x.period) m with
          | none => exact absurd hg e2
          | some e => simp only; rw [if_neg (e1 e hg)]
        · rw [if_neg (by rw [hother key hkey]; simp)]
      have hput : (∀ e, getM (x.kind, x.period) m = some e → e.at_ ≤ x.at_) → ∀ key, getM key (updM (x.kind, x.period) x m) = latest k at_ known key (don ++ [x]) := fun e1 key => by
        rw [latest_snoc, ← hm key, stepL.eq_def, getM_upd]
        by_cases hkey : key = (x.kind, x.period)
        · rw [if_pos hkey.symm, hkey, if_pos hck]
          cases hg : getM (x.kind, x.period) m with
          | none => rfl
          | some e => simp only; rw [if_pos (e1 e hg)]
        · rw [if_neg (fun e => hkey e.symm), if_neg (by rw [hother key hkey]; simp)]
      have hpm := put_M x.kind x.period x m
      rw [encB] at hpm
      rw [look_M]
      cases hg : getM (x.kind, x.period) m with
      | none =>
        rw [lkV]
        simp (disch := omega) only [go_sem, seval, e1, Kl, Km, Kj, Sj, Kj1, Sj1, List.length_append, if_true]
        rw [hpm]
        simp (disch := omega) only [go_sem, seval, Ks]
        refine roundL_next (jj ++ [.row (encB x).cells 40, .row [.int .i64 x.kind, .int .i64 x.period] 136, .row (encB zB).cells 40], updM (x.kind, x.period) x m) (hput fun e h => by rw [hg] at h; cases h) ?_ (by rw [encB]; rfl)
        simp (disch := omega) only [go_sem, seval, List.length_append]
      | some e =>
        rw [lkV]
        simp only [encB]
        simp (disch := omega) only [go_sem, seval, e1, Kl, Km, Kj, Sj, Kj1, Sj1, List.length_append, if_true]
        refine aIf.intro (fun h5 => ?_) (fun h5 => ?_) <;> simp (disch := omega) only [go_sem, seval, e1, Kl, Km, Kj, Sj, Kj1, Sj1, List.length_append]
        · rw [hpm]
          simp (disch := omega) only [go_sem, seval, Ks]
          refine roundL_next (jj ++ [.row (encB x).cells 40, .row [.int .i64 x.kind, .int .i64 x.period] 136, .row (encB e).cells 40], updM (x.kind, x.period) x m) (hput fun e' h => by rw [hg] at h; cases h; exact h5) ?_ (by simp only [encB]; rfl)
          simp (disch := omega) only [go_sem, seval, List.length_append]
        · refine roundL_next (jj ++ [.row (encB x).cells 40, .row [.int .i64 x.kind, .int .i64 x.period] 136, .row (encB e).cells 40], m) (hkeep (fun e' h => by rw [hg] at h; cases h; exact h5) (by rw [hg]; simp)) ?_ (by simp only [encB]; rfl)
          simp (disch := omega) only [go_sem, seval, List.length_append]
    refine aIf.intro (fun h4 => ?_) (fun h4 => ?_) <;> simp (disch := omega) only [go_sem, seval, e1, Kl, Km, Kj, Sj, Kj1, Sj1, List.length_append]
    · skip
      have hck : cntK k at_ known (x.kind, x.period) x = true := by simp [cntK, cntB, forK, h4, show x.at_ ≤ at_ by omega, show x.known ≤ known by omega]
      have hother : ∀ key, key ≠ (x.kind, x.period) → cntK k at_ known key x = false := fun key hne => by
        simp only [cntK, Bool.and_eq_false_iff, decide_eq_false_iff_not]; exact .inr fun e => hne e.symm
      have hkeep : (∀ e, getM (x.kind, x.period) m = some e → ¬ e.at_ ≤ x.at_) → getM (x.kind, x.period) m ≠ none → ∀ key, getM key m = latest k at_ known key (don ++ [x]) := fun e1 e2 key => by
        rw [latest_snoc, ← hm key, stepL.eq_def]
        by_cases hkey : key = (x.kind, x.period)
        · rw [hkey, if_pos hck]
          cases hg : getM (x.kind, x.period) m with
          | none => exact absurd hg e2
          | some e => simp only; rw [if_neg (e1 e hg)]
        · rw [if_neg (by rw [hother key hkey]; simp)]
      have hput : (∀ e, getM (x.kind, x.period) m = some e → e.at_ ≤ x.at_) → ∀ key, getM key (updM (x.kind, x.period) x m) = latest k at_ known key (don ++ [x]) := fun e1 key => by
        rw [latest_snoc, ← hm key, stepL.eq_def, getM_upd]
        by_cases hkey : key = (x.kind, x.period)
        · rw [if_pos hkey.symm, hkey, if_pos hck]
          cases hg : getM (x.kind, x.period) m with
          | none => rfl
          | some e => simp only; rw [if_pos (e1 e hg)]
        · rw [if_neg (fun e => hkey e.symm), if_neg (by rw [hother key hkey]; simp)]
      have hpm := put_M x.kind x.period x m
      rw [encB] at hpm
      rw [look_M]
      cases hg : getM (x.kind, x.period) m with
      | none =>
        rw [lkV]
        simp (disch := omega) only [go_sem, seval, e1, Kl, Km, Kj, Sj, Kj1, Sj1, List.length_append, if_true]
        rw [hpm]
        simp (disch := omega) only [go_sem, seval, Ks]
        refine roundL_next (jj ++ [.row (encB x).cells 40, .row [.int .i64 x.kind, .int .i64 x.period] 136, .row (encB zB).cells 40], updM (x.kind, x.period) x m) (hput fun e h => by rw [hg] at h; cases h) ?_ (by rw [encB]; rfl)
        simp (disch := omega) only [go_sem, seval, List.length_append]
      | some e =>
        rw [lkV]
        simp only [encB]
        simp (disch := omega) only [go_sem, seval, e1, Kl, Km, Kj, Sj, Kj1, Sj1, List.length_append, if_true]
        refine aIf.intro (fun h5 => ?_) (fun h5 => ?_) <;> simp (disch := omega) only [go_sem, seval, e1, Kl, Km, Kj, Sj, Kj1, Sj1, List.length_append]
        · rw [hpm]
          simp (disch := omega) only [go_sem, seval, Ks]
          refine roundL_next (jj ++ [.row (encB x).cells 40, .row [.int .i64 x.kind, .int .i64 x.period] 136, .row (encB e).cells 40], updM (x.kind, x.period) x m) (hput fun e' h => by rw [hg] at h; cases h; exact h5) ?_ (by simp only [encB]; rfl)
          simp (disch := omega) only [go_sem, seval, List.length_append]
        · refine roundL_next (jj ++ [.row (encB x).cells 40, .row [.int .i64 x.kind, .int .i64 x.period] 136, .row (encB e).cells 40], m) (hkeep (fun e' h => by rw [hg] at h; cases h; exact h5) (by rw [hg]; simp)) ?_ (by simp only [encB]; rfl)
          simp (disch := omega) only [go_sem, seval, List.length_append]
    · refine roundL_next (jj ++ [.row (encB x).cells 40], m) (skip fun key => by simp [cntK, forK, h3, h4]) ?_ rfl
      simp (disch := omega) only [go_sem, seval, List.length_append]
  · rintro ⟨jj, m⟩ hm
    simp only at hm
    simp (disch := omega) only [go_sem, seval]
    refine AWP.keep [0, 8, 9] (aCode_ok Ty.mixed _ _ _ _ (by kernel_rfl) ?_)
    simp (disch := omega) only [go_sem, seval, encBs_len]
    have hstand : ∀ y ∈ l, (!y.gone && decide (getM (y.kind, y.period) m = some y)) = (forK k y && standsF l at_ known y) := fun y hy => by
      have := stands_iff (k := k) (at_ := at_) (known := known) hp hy
      rw [hm, standsF]
      rw [show decide (latest k at_ known (y.kind, y.period) l = some y) = (forK k y && cntB at_ known y && newest l at_ known y) from by
        rw [Bool.eq_iff_iff, decide_eq_true_iff]; exact this]
      cases y.gone <;> cases forK k y <;> simp
    have hzero : ∀ y ∈ l, zB ≠ y := fun y hy e => by
      have := rightB_period (hr y hy)
      rw [← e] at this
      simp [zB] at this
    refine awp_loopL (β := BsS) l [8, 9, 69, 70, 71] (fun don s => [(8, .sl (encBs s.l) s.own), (9, .map (some h.length)), (69, .sl (encBs l) .free), (70, .int .i64 l.length), (71, .int .i64 don.length)])
      (fun s => K m ++ s.j) (fun don _ s => OwnAt (K m) s.j s.l.length s.own ∧ s.l = don.filter fun x => forK k x && standsF l at_ known x) ⟨[], .full, jj⟩ ?_ rfl ⟨trivial, rfl⟩ Ty.mixed (by kernel_rfl) ?_ ?_
    · simp (disch := omega) only [go_sem, seval, encBs_nil]
    · rintro don x r ⟨q, own, j⟩ hd ⟨ho, hq⟩
      simp only at ho hq ⊢
      have hlen : l.length = don.length + 1 + r.length := by rw [hd]; simp; omega
      have hxl : x ∈ l := by rw [hd]; simp
      have hml : q.length ≤ don.length := by rw [hq]; exact List.length_filter_le _ _
      have e1 : (encBs l)[don.length]? = some (encB x) := by rw [hd]; exact encBs_get don r x
      have hst := hstand x hxl
      have no : (forK k x && standsF l at_ known x) = false → q = (don ++ [x]).filter fun x => forK k x && standsF l at_ known x := fun e => by
        rw [hq, List.filter_append, List.filter_cons_of_neg (by rw [e]; simp), List.filter_nil, List.append_nil]
      have yes : (forK k x && standsF l at_ known x) = true → q ++ [x] = (don ++ [x]).filter fun x => forK k x && standsF l at_ known x := fun e => by
        rw [hq, List.filter_append, List.filter_cons_of_pos (p := fun x => forK k x && standsF l at_ known x) e, List.filter_nil]
      rw [← hst] at no yes
      simp only [encB] at e1
      simp (disch := omega) only [go_sem, seval]
      refine aIf.pos (by omega) ?_
      simp (disch := omega) only [go_sem, seval, e1, Kl, Km, Kj, Sj, Kj1, Sj1, List.length_append]
      cases hg : x.gone with
      | true =>
        simp (disch := omega) only [go_sem, seval]
        refine roundL_next ⟨q, own, j ++ [.row (encB x).cells 40]⟩ ⟨ho.app _, no (by rw [hg]; rfl)⟩ ?_ ?_
        · simp (disch := omega) only [go_sem, seval, List.length_append]
        · simp only [encB, hg]; rfl
      | false =>
      simp (disch := omega) only [go_sem, seval, Kl, Km, Kj, Sj, List.length_append]
      rw [look_M]
      cases hgm : getM (x.kind, x.period) m with
      | none =>
        rw [lkV]
        simp (disch := omega) only [go_sem, seval, e1, Kl, Km, Kj, Sj, Kj1, Sj1, List.length_append]
        have hpr := rightB_period (hr x hxl)
        rw [show (decide ((0 : Int) = x.no) && (decide ((0 : Int) = x.at_) && (decide ((0 : Int) = x.known) && (decide ((0 : Int) = x.kind) && (decide ((0 : Int) = x.period) && (decide ((0 : Int) = x.count) && decide ((0 : Int) = x.value))))))) = false from by
          rw [show decide ((0 : Int) = x.period) = false from decide_eq_false (by omega)]; simp]
        simp (disch := omega) only [go_sem, seval]
        refine roundL_next ⟨q, own, j ++ [.row (encB x).cells 40]⟩ ⟨ho.app _, no (by rw [hgm]; simp)⟩ ?_ ?_
        · simp (disch := omega) only [go_sem, seval, List.length_append]
        · simp only [encB, hg]; rfl
      | some e =>
        rw [lkV]
        simp only [encB]
        simp (disch := omega) only [go_sem, seval, e1, Kl, Km, Kj, Sj, Kj1, Sj1, List.length_append]
        rw [eqB e x hg]
        rw [hgm, hg, show decide (some e = some x) = decide (e = x) from by rw [decide_eq_decide, Option.some.injEq]] at yes no
        cases hex : decide (e = x) with
        | false =>
          rw [hex] at no
          simp (disch := omega) only [go_sem, seval]
          refine roundL_next ⟨q, own, j ++ [.row (encB x).cells 40]⟩ ⟨ho.app _, no rfl⟩ ?_ ?_
          · simp (disch := omega) only [go_sem, seval, List.length_append]
          · simp only [encB, hg]; rfl
        | true =>
          rw [hex] at yes
          have hxg : encB x = .agg [.int .i64 x.no, .int .i64 x.at_, .int .i64 x.known, .int .i64 x.kind, .int .i64 x.period, .int .i64 x.count, .int .i64 x.value, .bool false] := by rw [encB, hg]
          simp (disch := omega) only [go_sem, seval, Kl, Km, Kj, Sj, List.length_append]
          rw [← hxg]
          refine aAp_sl (by rw [encBs_len]; exact ho.app _) (rowsOK_B _) (rowsOK_B [x]) (by simp [encBs_len]; omega) (by simp [encBs_len]; omega) fun j' own' ho2 hgr => ?_
          rw [encBs_snoc]
          simp (disch := omega) only [go_sem, seval]
          refine roundL_next ⟨q ++ [x], own', j'⟩ ⟨by simpa [encBs_len] using ho2, yes rfl⟩ ?_ rfl
          simp (disch := omega) only [go_sem, seval, List.length_append]
    · rintro ⟨q, own, j⟩ ⟨ho, hq⟩
      simp only at hq
      simp (disch := omega) only [go_sem, seval]
      refine AWP.keep [8] (aCode_ok Ty.mixed _ _ _ _ (by kernel_rfl) ?_)
      simp (disch := omega) only [go_sem, seval, loose_Bs]
      refine ⟨Kh _ _, rb_Bs _ _, ?_⟩
      rw [hq]; rfl
set_option maxRecDepth 100000 in
theorem pStanding_calls (Γ : Nat → Option (List AV)) (l : List Bg) (k at_ known : Int) (h : AH) (hl : l.length ≤ 1000000) :
    ACalls Try.prog Γ 24 [.sl (encBs l) .free, .int .i64 k, .int .i64 at_, .int .i64 known] h fun v h' => h' = h ∧ v = .tuple [.sl (encBs (standR l k at_ known).1) .free, .int .i64 (standR l k at_ known).2] := by
  have c1 := fun h => pcheck_calls Γ l h hl
  have c2 := fun o h => between1 Γ 0 15 k o h
  have c3 := fun o h => between2 Γ 0 1099511627775 at_ known o h
  have hS : standR l k at_ known = if checkB l ≠ 0 then ([], checkB l) else if inR k 0 15 && (inR at_ 0 1099511627775 && inR known 0 1099511627775) then (standF l k at_ known, 0) else ([], 1) := by
    rw [standR, ← timeF_in, ← timeF_in, show END - 1 = 1099511627775 from rfl, Bool.and_assoc]
  rw [hS]
  have c5 := fun (e : checkB l = 0) h => pstanding_calls Γ l k at_ known h hl (check0 e).1 (check0 e).2
  generalize hce : checkB l = e at *
  generalize inR k 0 15 = b1 at *
  generalize (inR at_ 0 1099511627775 && inR known 0 1099511627775) = b2 at *
  refine ACalls.dropL ?_
  refine acalls_code (rs := [.tmp 8, .tmp 9]) Try.func24 rfl rfl rfl rfl Ty.mixed (by kernel_rfl) ?_
  simp (disch := omega) only [go_sem, seval]
  refine ACalls.det (c1 _) ?_
  simp (disch := omega) only [go_sem, seval]
  refine aIf.intro (fun h1 => ?_) (fun h1 => ?_) <;> simp (disch := omega) only [go_sem, seval, loose_Bs, encBs_nil]
  rotate_left
  · rw [if_pos h1]
    exact rfl
  subst h1
  rw [if_neg (by simp)]
  refine ACalls.det (c2 _ _) ?_
  cases b1 with
  | false => simp (disch := omega) only [go_sem, seval]; rfl
  | true =>
  simp (disch := omega) only [go_sem, seval]
  refine ACalls.det (c3 _ _) ?_
  cases b2 with
  | false => simp (disch := omega) only [go_sem, seval]; rfl
  | true =>
  simp (disch := omega) only [go_sem, seval]
  refine ACalls.det (c5 rfl _) ?_
  simp (disch := omega) only [go_sem, seval, loose_Bs]
  exact rb_Bs _ _
end Go.Proofs.Ytelehpccfaedjaa

/- The library's maps.Keys, slices.Sorted. No conditions. -/
set_option linter.unusedSimpArgs false
set_option linter.unusedVariables false
namespace Go.Proofs.Ytelehpccfaedjaa
open Go Go.Proofs Go.Abs

theorem acalls_codeM {P : Program} {Γ : Nat → Option (List AV)} {h : AH} {f : FuncId} {fn : Func} {c : Code} {args : List AV} {rs : List ResultVar} {R : AV → AH → Prop} (hf : P.funcs[f]? = some fn) (hb : fn.body = some c) (hn : (fn.name == "runtime.NumGoroutine") = false)
    (hN : Nat.ble args.length fn.ntmps = true) (hM : Nat.ble fn.ntmps 1000000 = true) (hrs : fn.results = rs.toArray) (hm : P.follows .mixedOrders = true) (hc : codeOK fn.ntmps c = true) (H : aCode P Γ fn.ntmps c (endA P rs R) ((1000000, .tuple []) :: argsT 0 args) h) : ACalls P Γ f args h R :=
  acalls_of_awp hf hb hn hN hrs (AWP.mark (by simpa [Nat.ble_eq] using hM) (aCode_ok hm c _ _ _ hc H))
theorem encI_app2 (l m : List Int) : encI l ++ encI m = encI (l ++ m) := (encI_app l m).symm
def NoLp (j : AH) : Prop := ∀ ob ∈ j, ∀ st pe li, ob ≠ .loop st pe li
theorem NoLp.set {j : AH} (h : NoLp j) (q : Nat) (cs : List AV) (T : TypeId) : NoLp (j.set q (.row cs T)) := fun ob ho st pe li e => by
  rcases List.mem_or_eq_of_mem_set ho with ho | rfl
  · exact h ob ho st pe li e
  · cases e
theorem NoLp.snoc {j : AH} (h : NoLp j) (cs : List AV) (T : TypeId) : NoLp (j ++ [.row cs T]) := fun ob ho st pe li e => by
  rcases List.mem_append.1 ho with ho | ho
  · exact h ob ho st pe li e
  · rw [List.mem_singleton] at ho; subst ho; cases e
theorem aApM_noLp {v x : AV} {xs ys : List AV} {h j : AH} {T : TypeId} {by_ : Nat} {z : List AV} {Q : AV → AH → Prop} (hv : OwnM h.length j T v xs) (hj : NoLp j) (hs : SrcIs x (h ++ j) ys) (hx : RowsOK 1 ys) (hf : flat ys = ys) (hne : ys ≠ [])
    (h63 : xs.length + ys.length ≤ 9223372036854775807) (hby : (xs.length + ys.length) * by_ ≤ 140737488355328) (H : ∀ v' j', OwnM h.length j' T v' (xs ++ ys) → NoLp j' → Q v' (h ++ j')) : aApM (some (1, by_, z, T)) v x (h ++ j) Q := by
  refine ⟨ys, hs, hx, ?_⟩
  rcases hv with ⟨rfl, rfl⟩ | ⟨q, c, pad, rfl, h2, h3, h4⟩
  · refine ⟨by simpa using h63, by simpa using hby, fun e => absurd e hne, fun _ c hc => ?_⟩
    rw [hf, List.append_assoc]
    have := H (.ms (h ++ j).length 0 ys.length c 1) (j ++ [.row (ys ++ List.replicate ((c - ys.length) * 1) .top) T]) (.inr ⟨j.length, c, List.replicate (c - ys.length) .top, by simp, by simp, by simp; omega, fun a ha => by rw [List.eq_of_mem_replicate ha]; rfl⟩) (hj.snoc _ _)
    simpa using this
  · have hq := (List.getElem?_eq_some_iff.1 h2).1
    have hg : (h ++ j)[h.length + q]? = some (.row (xs ++ pad) T) := by rw [hget_add]; exact h2
    refine ⟨rfl, h63, hby, by omega, ?_⟩
    rw [hg]
    refine ⟨by simp; omega, fun hle => ?_, fun hlt c' hc' => ?_⟩
    · have := H (.ms (h.length + q) 0 (xs.length + ys.length) c 1) (j.set q (.row (xs ++ ys ++ pad.drop ys.length) T)) (.inr ⟨q, c, pad.drop ys.length, by simp, by simp [hq], by simp; omega, fun a ha => h4 a (List.mem_of_mem_drop ha)⟩) (hj.set _ _ _)
      rw [hset_add, hf]
      rw [show splice (xs ++ pad) (0 + xs.length * 1) ys = xs ++ ys ++ pad.drop ys.length from splice_app (by omega)]
      exact this
    · have := H (.ms (h ++ j).length 0 (xs.length + ys.length) c' 1) (j ++ [.row (xs ++ ys ++ List.replicate ((c' - (xs.length + ys.length)) * 1) .top) T]) (.inr ⟨j.length, c', List.replicate (c' - (xs.length + ys.length)) .top, by simp, by simp, by simp; omega, fun a ha => by rw [List.eq_of_mem_replicate ha]; rfl⟩) (hj.snoc _ _)
      rw [hf]
      simpa using this
theorem noLp_mid {h X : AH} (hX : NoLp X) (Y : AH) (i : Nat) (ob : AObj) (e : (h ++ X)[i]? = some ob) : (h ++ Y)[i]? = some ob ∨ ∀ (st : LoopState) (pe : Option Code) (li : LI), ¬ ob = .loop st pe li := by
  by_cases hi : i < h.length
  · rw [List.getElem?_append_left hi] at e ⊢; exact .inl e
  · rw [List.getElem?_append_right (by omega)] at e
    exact .inr fun st pe li => hX ob (List.mem_of_getElem? e) st pe li
structure CkS where
  seen : List Nat
  v : AV
  j : AH
set_option maxRecDepth 100000 in
theorem keysB_calls (Γ : Nat → Option (List AV)) (M : Nat) (h : AH) :
    ACalls Try.prog Γ 45 [.map (some M)] h fun v h' => h' = h ++ [.row [.map (some M)] 82] ∧ v = .func 81 [] [.ptr (some (h.length, 0))] := by
  refine acalls_code (rs := [.tmp 2]) Try.func45 rfl rfl rfl rfl Ty.mixed (by kernel_rfl) ?_
  simp (disch := omega) only [go_sem, seval]
set_option maxHeartbeats 2000000 in
set_option maxRecDepth 100000 in
theorem appendSeqB_calls (Γ : Nat → Option (List AV)) (M c : Nat) (f : Int → AV) (ks : List Int) (h : AH) (hM : h[M]? = some (.map (entsA f 0 ks) ks.length)) (hc : h[c]? = some (.row [.map (some M)] 82)) (hl : ks.length ≤ 100000) :
    ACalls Try.prog Γ 111 [.sl [] .full, .func 81 [] [.ptr (some (c, 0))]] h fun v h' => ∃ j ls, h' = h ++ j ∧ ls.Perm ks ∧ OwnM h.length j 3 v (encI ls) := by
  have hM' := hget_of hM
  have hc' := hget_of hc
  refine acalls_codeM (rs := [.tmp 4]) Try.func111 rfl rfl rfl rfl rfl Ty.mixed (by kernel_rfl) ?_
  simp (disch := omega) only [go_sem, seval]
  refine AWP.keep [2, 4, 6, 1000000] ?_
  simp (disch := omega) only [go_sem, seval]
  refine awp_rangeFuncKL rfl (fun li hli => ?_)
  simp (disch := omega) only [go_sem, seval]
  refine acalls_code (rs := []) Try.func81 rfl rfl rfl rfl Ty.mixed (by kernel_rfl) ?_
  simp (disch := omega) only [go_sem, seval, hget_in, hc, hM]
  obtain ⟨K, hK⟩ : ∃ K : AV → AObj → List Nat → AH, ∀ v lo s, K v lo s = h ++ [.row [v] 29, lo, .iter (some M) ks.length s] := ⟨_, fun _ _ _ => rfl⟩
  have Kl : ∀ v lo s, (K v lo s).length = h.length + 3 := fun v lo s => by rw [hK]; simp
  have KM : ∀ v lo s (R : AH), (K v lo s ++ R)[M]? = some (.map (entsA f 0 ks) ks.length) := fun v lo s R => by rw [hK, List.append_assoc, hget_in _ hM']; exact hM
  have Kv : ∀ v lo s (R : AH), (K v lo s ++ R)[h.length]? = some (.row [v] 29) := fun v lo s R => by rw [hK]; simp
  have Ko : ∀ v lo s (R : AH), (K v lo s ++ R)[h.length + 1]? = some lo := fun v lo s R => by rw [hK]; simp
  have Ki : ∀ v lo s (R : AH), (K v lo s ++ R)[h.length + 2]? = some (.iter (some M) ks.length s) := fun v lo s R => by rw [hK]; simp
  have Sv : ∀ v lo s (R : AH) v', (K v lo s ++ R).set h.length (.row [v'] 29) = K v' lo s ++ R := fun v lo s R v' => by rw [hK, hK]; simp [hset_zero]
  have So : ∀ v lo s (R : AH) lo', (K v lo s ++ R).set (h.length + 1) lo' = K v lo' s ++ R := fun v lo s R lo' => by rw [hK, hK]; simp [hset_add]
  have Si : ∀ v lo s (R : AH) s', (K v lo s ++ R).set (h.length + 2) (.iter (some M) ks.length s') = K v lo s' ++ R := fun v lo s R s' => by rw [hK, hK]; simp [hset_add]
  refine awp_loopS (α := CkS) [0, 5] (fun _ => [(0, .yield (h.length + 1)), (5, .ptr (some (h.length + 2, 0)))]) (fun s => K s.v (.loop .ready none li) s.seen ++ s.j)
    (fun s => s.seen.Nodup ∧ (∀ b ∈ s.seen, b < ks.length) ∧ OwnM (h.length + 3) s.j 3 s.v (encI (metF ks s.seen)) ∧ NoLp s.j) (fun s => ks.length - s.seen.length) ⟨[], .sl [] .full, []⟩ ?_ ?_ ⟨.nil, by simp, .inl ⟨rfl, rfl⟩, fun _ h => by simp at h⟩ Ty.mixed (by kernel_rfl) ?_
  · simp (disch := omega) only [go_sem, seval]
  · simp [hK]
  rintro ⟨seen, v, j⟩ ⟨hn1, hn2, hv, hj⟩
  simp only at hn1 hn2 hv hj ⊢
  have hml := met_len hn1 hn2
  simp (disch := omega) only [go_sem, seval, Ki, KM]
  refine ⟨rfl, ?_, ?_, ?_⟩
  · intro e he
    obtain ⟨b, hb1, rfl⟩ := entsA_mem _ _ _ he
    simpa using hb1
  · intro hall
    have hall' : ∀ b, b < ks.length → b ∈ seen := fun b hb => by
      have hg := entsA_get f ks 0 b
      rw [List.getElem?_eq_getElem hb] at hg
      have := hall _ (List.mem_of_getElem? hg)
      simpa using this
    have hperm := met_all hn1 hn2 hall'
    simp (disch := omega) only [go_sem, seval]
    refine ⟨h ++ [.row [v] 29], .ready, none, .iter (some M) ks.length seen :: j, by rw [hK]; simp, by simp, ?_, by simp, ?_⟩
    · have hX : NoLp ([.row [v] 29, .dead, .iter (some M) ks.length seen] ++ j) := fun ob ho st pe li e => by
        rcases List.mem_append.1 ho with ho | ho
        · simp only [List.mem_cons, List.not_mem_nil, or_false] at ho
          rcases ho with rfl | rfl | rfl <;> cases e
        · exact hj ob ho st pe li e
      intro i ob e
      have e' : (h ++ ([.row [v] 29, .dead, .iter (some M) ks.length seen] ++ j))[i]? = some ob := by simpa using e
      exact noLp_mid hX _ i ob e'
    · simp (disch := omega) only [go_sem, seval]
      refine AWP.keep [2, 4, 1000000] (aCode_ok Ty.mixed _ _ _ _ (by kernel_rfl) ?_)
      simp (disch := omega) only [go_sem, seval]
      refine ⟨[.row [v] 29, .dead, .iter (some M) ks.length seen] ++ j, metF ks seen, by simp, hperm, ?_⟩
      exact OwnM.shift (k := [.row [v] 29, .dead, .iter (some M) ks.length seen]) hv
  · intro e he hns
    obtain ⟨b, hb1, rfl⟩ := entsA_mem _ _ _ he
    simp only at hns
    have hfd := entsA_at f ks 0 b hb1
    rw [Nat.zero_add] at hfd
    rw [Si]
    simp (disch := omega) only [go_sem, seval, Ki, KM, hfd]
    have hq1 : (seen ++ [b]).Nodup := by rw [List.nodup_append]; exact ⟨hn1, by simp, by simpa using fun a ha e => hns (by simpa [← e] using ha)⟩
    have hq2 : ∀ a ∈ seen ++ [b], a < ks.length := by
      intro a ha
      rcases List.mem_append.1 ha with ha | ha
      · exact hn2 a ha
      · simp at ha; omega
    have hq3 := met_len hq1 hq2
    refine ayield_L hli (Ko _ _ _ _) rfl rfl Ty.mixed (by kernel_rfl) (by kernel_rfl) ?_
    simp (disch := omega) only [go_sem, seval, Ko, So, Kv, Sv]
    refine ⟨by omega, rfl, by simp [AV.cells, AV.one], ?_⟩
    simp (disch := omega) only [go_sem, seval, Kl, List.append_assoc, List.length_append]
    refine aApM_noLp (xs := encI (metF ks seen)) (ys := encI [ks.getD b 0]) (by rw [Kl]; exact hv.more _) (hj.snoc _ _) ⟨[.int .i64 (ks.getD b 0)], 3, ?_, rfl, by simp, by simp [AV.one], rfl⟩ (rowsOK_I _) (flat_I _) (by simp [encI]) ?_ ?_ fun v' j' hv' hj' => ?_
    · rw [← Kl v (.loop .busy none li) (seen ++ [b]), hget_add]; simp [flat, AV.cells]
    · simp only [encI_len, metF, List.length_map, List.length_cons, List.length_nil]; omega
    · simp only [encI_len, metF, List.length_map, List.length_cons, List.length_nil]; omega
    rw [encI_app2] at hv'
    have hvc : v'.cells = [v'] := by rcases hv' with ⟨rfl, _⟩ | ⟨_, _, _, rfl, _⟩ <;> rfl
    have hvg : v'.good = true := by rcases hv' with ⟨rfl, _⟩ | ⟨_, _, _, rfl, _⟩ <;> rfl
    simp (disch := omega) only [go_sem, seval, hvc, hvg, Ko, So, Kv, Sv]
    refine roundS_next ⟨seen ++ [b], v', j'⟩ ?_ ⟨hq1, hq2, ?_, hj'⟩ ?_ rfl
    · simp only [List.length_append, List.length_cons, List.length_nil] at hq3 ⊢; omega
    · rw [Kl] at hv'; simpa [metF] using hv'
    · simp (disch := omega) only [go_sem, seval]
set_option maxRecDepth 100000 in
theorem collectB_calls (Γ : Nat → Option (List AV)) (M c : Nat) (f : Int → AV) (ks : List Int) (h : AH) (hM : h[M]? = some (.map (entsA f 0 ks) ks.length)) (hc : h[c]? = some (.row [.map (some M)] 82)) (hl : ks.length ≤ 100000) :
    ACalls Try.prog Γ 79 [.func 81 [] [.ptr (some (c, 0))]] h fun v h' => ∃ j ls, h' = h ++ j ∧ ls.Perm ks ∧ OwnM h.length j 3 v (encI ls) := by
  refine acalls_code (rs := [.tmp 2]) Try.func79 rfl rfl rfl rfl Ty.mixed (by kernel_rfl) ?_
  simp (disch := omega) only [go_sem, seval]
  refine ACalls.then (appendSeqB_calls Γ M c f ks _ hM hc hl) ?_
  rintro v _ ⟨j, ls, rfl, h1, h2⟩
  simp (disch := omega) only [go_sem, seval]
  exact ⟨j, ls, rfl, h1, h2⟩
set_option maxRecDepth 100000 in
theorem sortedB_calls (Γ : Nat → Option (List AV)) (M c : Nat) (f : Int → AV) (ks : List Int) (h : AH) (hM : h[M]? = some (.map (entsA f 0 ks) ks.length)) (hc : h[c]? = some (.row [.map (some M)] 82)) (hl : ks.length ≤ 100000) :
    ACalls Try.prog Γ 44 [.func 81 [] [.ptr (some (c, 0))]] h fun v h' => h' = h ∧ v = .sl (encI (sortI ks)) .free := by
  refine ACalls.endM ?_
  refine acalls_code (rs := [.tmp 2]) Try.func44 rfl rfl rfl rfl Ty.mixed (by kernel_rfl) ?_
  simp (disch := omega) only [go_sem, seval]
  refine ACalls.then (collectB_calls Γ M c f ks _ hM hc hl) ?_
  rintro v _ ⟨j, ls, rfl, hperm, hv⟩
  have hlen : ls.length ≤ 100000 := by rw [hperm.length_eq]; exact hl
  have hsrt : sortI ls = sortI ks := sortI_of (sortI_le _) ((sortI_perm _).trans hperm)
  have hvc : v.cells = [v] := by rcases hv with ⟨rfl, _⟩ | ⟨_, _, _, rfl, _⟩ <;> rfl
  have hvg : v.good = true := by rcases hv with ⟨rfl, _⟩ | ⟨_, _, _, rfl, _⟩ <;> rfl
  simp (disch := omega) only [go_sem, seval]
  have hso := sortM_calls Γ h j [] 3 v _ hv (by omega)
  rw [List.append_nil] at hso
  refine ACalls.then hso ?_
  rintro _ _ ⟨j', hj', rfl, hv'⟩
  rw [List.append_nil]
  simp (disch := omega) only [go_sem, seval]
  rw [hsrt] at hv'
  rcases hv' with ⟨rfl, hnil⟩ | ⟨q, c, pad, rfl, hq, hc', hp⟩
  · left
    have : sortI ks = [] := by
      cases hm : sortI ks with
      | nil => rfl
      | cons a r => rw [hm] at hnil; simp [encI] at hnil
    rw [this]
    exact ⟨of_eq_true (rb_I _ []), rfl⟩
  · right
    refine ⟨q, encI (sortI ks) ++ pad, 3, hq, ?_⟩
    rw [encI_len] at hc'
    have hfo := fz_own (h.length + q) c (sortI ks) pad (by omega) hp
    rw [encI_len, hfo]
    simp (disch := omega) only [go_sem, seval]
set_option maxRecDepth 100000 in
theorem keysS_calls (Γ : Nat → Option (List AV)) (M : Nat) (h : AH) :
    ACalls Try.prog Γ 49 [.map (some M)] h fun v h' => h' = h ++ [.row [.map (some M)] 89] ∧ v = .func 85 [] [.ptr (some (h.length, 0))] := by
  refine acalls_code (rs := [.tmp 2]) Try.func49 rfl rfl rfl rfl Ty.mixed (by kernel_rfl) ?_
  simp (disch := omega) only [go_sem, seval]
set_option maxHeartbeats 2000000 in
set_option maxRecDepth 100000 in
theorem appendSeqS_calls (Γ : Nat → Option (List AV)) (M c : Nat) (f : Int → AV) (ks : List Int) (h : AH) (hM : h[M]? = some (.map (entsA f 0 ks) ks.length)) (hc : h[c]? = some (.row [.map (some M)] 89)) (hl : ks.length ≤ 100000) :
    ACalls Try.prog Γ 111 [.sl [] .full, .func 85 [] [.ptr (some (c, 0))]] h fun v h' => ∃ j ls, h' = h ++ j ∧ ls.Perm ks ∧ OwnM h.length j 3 v (encI ls) := by
  have hM' := hget_of hM
  have hc' := hget_of hc
  refine acalls_codeM (rs := [.tmp 4]) Try.func111 rfl rfl rfl rfl rfl Ty.mixed (by kernel_rfl) ?_
  simp (disch := omega) only [go_sem, seval]
  refine AWP.keep [2, 4, 6, 1000000] ?_
  simp (disch := omega) only [go_sem, seval]
  refine awp_rangeFuncKL rfl (fun li hli => ?_)
  simp (disch := omega) only [go_sem, seval]
  refine acalls_code (rs := []) Try.func85 rfl rfl rfl rfl Ty.mixed (by kernel_rfl) ?_
  simp (disch := omega) only [go_sem, seval, hget_in, hc, hM]
  obtain ⟨K, hK⟩ : ∃ K : AV → AObj → List Nat → AH, ∀ v lo s, K v lo s = h ++ [.row [v] 29, lo, .iter (some M) ks.length s] := ⟨_, fun _ _ _ => rfl⟩
  have Kl : ∀ v lo s, (K v lo s).length = h.length + 3 := fun v lo s => by rw [hK]; simp
  have KM : ∀ v lo s (R : AH), (K v lo s ++ R)[M]? = some (.map (entsA f 0 ks) ks.length) := fun v lo s R => by rw [hK, List.append_assoc, hget_in _ hM']; exact hM
  have Kv : ∀ v lo s (R : AH), (K v lo s ++ R)[h.length]? = some (.row [v] 29) := fun v lo s R => by rw [hK]; simp
  have Ko : ∀ v lo s (R : AH), (K v lo s ++ R)[h.length + 1]? = some lo := fun v lo s R => by rw [hK]; simp
  have Ki : ∀ v lo s (R : AH), (K v lo s ++ R)[h.length + 2]? = some (.iter (some M) ks.length s) := fun v lo s R => by rw [hK]; simp
  have Sv : ∀ v lo s (R : AH) v', (K v lo s ++ R).set h.length (.row [v'] 29) = K v' lo s ++ R := fun v lo s R v' => by rw [hK, hK]; simp [hset_zero]
  have So : ∀ v lo s (R : AH) lo', (K v lo s ++ R).set (h.length + 1) lo' = K v lo' s ++ R := fun v lo s R lo' => by rw [hK, hK]; simp [hset_add]
  have Si : ∀ v lo s (R : AH) s', (K v lo s ++ R).set (h.length + 2) (.iter (some M) ks.length s') = K v lo s' ++ R := fun v lo s R s' => by rw [hK, hK]; simp [hset_add]
  refine awp_loopS (α := CkS) [0, 5] (fun _ => [(0, .yield (h.length + 1)), (5, .ptr (some (h.length + 2, 0)))]) (fun s => K s.v (.loop .ready none li) s.seen ++ s.j)
    (fun s => s.seen.Nodup ∧ (∀ b ∈ s.seen, b < ks.length) ∧ OwnM (h.length + 3) s.j 3 s.v (encI (metF ks s.seen)) ∧ NoLp s.j) (fun s => ks.length - s.seen.length) ⟨[], .sl [] .full, []⟩ ?_ ?_ ⟨.nil, by simp, .inl ⟨rfl, rfl⟩, fun _ h => by simp at h⟩ Ty.mixed (by kernel_rfl) ?_
  · simp (disch := omega) only [go_sem, seval]
  · simp [hK]
  rintro ⟨seen, v, j⟩ ⟨hn1, hn2, hv, hj⟩
  simp only at hn1 hn2 hv hj ⊢
  have hml := met_len hn1 hn2
  simp (disch := omega) only [go_sem, seval, Ki, KM]
  refine ⟨rfl, ?_, ?_, ?_⟩
  · intro e he
    obtain ⟨b, hb1, rfl⟩ := entsA_mem _ _ _ he
    simpa using hb1
  · intro hall
    have hall' : ∀ b, b < ks.length → b ∈ seen := fun b hb => by
      have hg := entsA_get f ks 0 b
      rw [List.getElem?_eq_getElem hb] at hg
      have := hall _ (List.mem_of_getElem? hg)
      simpa using this
    have hperm := met_all hn1 hn2 hall'
    simp (disch := omega) only [go_sem, seval]
    refine ⟨h ++ [.row [v] 29], .ready, none, .iter (some M) ks.length seen :: j, by rw [hK]; simp, by simp, ?_, by simp, ?_⟩
    · have hX : NoLp ([.row [v] 29, .dead, .iter (some M) ks.length seen] ++ j) := fun ob ho st pe li e => by
        rcases List.mem_append.1 ho with ho | ho
        · simp only [List.mem_cons, List.not_mem_nil, or_false] at ho
          rcases ho with rfl | rfl | rfl <;> cases e
        · exact hj ob ho st pe li e
      intro i ob e
      have e' : (h ++ ([.row [v] 29, .dead, .iter (some M) ks.length seen] ++ j))[i]? = some ob := by simpa using e
      exact noLp_mid hX _ i ob e'
    · simp (disch := omega) only [go_sem, seval]
      refine AWP.keep [2, 4, 1000000] (aCode_ok Ty.mixed _ _ _ _ (by kernel_rfl) ?_)
      simp (disch := omega) only [go_sem, seval]
      refine ⟨[.row [v] 29, .dead, .iter (some M) ks.length seen] ++ j, metF ks seen, by simp, hperm, ?_⟩
      exact OwnM.shift (k := [.row [v] 29, .dead, .iter (some M) ks.length seen]) hv
  · intro e he hns
    obtain ⟨b, hb1, rfl⟩ := entsA_mem _ _ _ he
    simp only at hns
    have hfd := entsA_at f ks 0 b hb1
    rw [Nat.zero_add] at hfd
    rw [Si]
    simp (disch := omega) only [go_sem, seval, Ki, KM, hfd]
    have hq1 : (seen ++ [b]).Nodup := by rw [List.nodup_append]; exact ⟨hn1, by simp, by simpa using fun a ha e => hns (by simpa [← e] using ha)⟩
    have hq2 : ∀ a ∈ seen ++ [b], a < ks.length := by
      intro a ha
      rcases List.mem_append.1 ha with ha | ha
      · exact hn2 a ha
      · simp at ha; omega
    have hq3 := met_len hq1 hq2
    refine ayield_L hli (Ko _ _ _ _) rfl rfl Ty.mixed (by kernel_rfl) (by kernel_rfl) ?_
    simp (disch := omega) only [go_sem, seval, Ko, So, Kv, Sv]
    refine ⟨by omega, rfl, by simp [AV.cells, AV.one], ?_⟩
    simp (disch := omega) only [go_sem, seval, Kl, List.append_assoc, List.length_append]
    refine aApM_noLp (xs := encI (metF ks seen)) (ys := encI [ks.getD b 0]) (by rw [Kl]; exact hv.more _) (hj.snoc _ _) ⟨[.int .i64 (ks.getD b 0)], 3, ?_, rfl, by simp, by simp [AV.one], rfl⟩ (rowsOK_I _) (flat_I _) (by simp [encI]) ?_ ?_ fun v' j' hv' hj' => ?_
    · rw [← Kl v (.loop .busy none li) (seen ++ [b]), hget_add]; simp [flat, AV.cells]
    · simp only [encI_len, metF, List.length_map, List.length_cons, List.length_nil]; omega
    · simp only [encI_len, metF, List.length_map, List.length_cons, List.length_nil]; omega
    rw [encI_app2] at hv'
    have hvc : v'.cells = [v'] := by rcases hv' with ⟨rfl, _⟩ | ⟨_, _, _, rfl, _⟩ <;> rfl
    have hvg : v'.good = true := by rcases hv' with ⟨rfl, _⟩ | ⟨_, _, _, rfl, _⟩ <;> rfl
    simp (disch := omega) only [go_sem, seval, hvc, hvg, Ko, So, Kv, Sv]
    refine roundS_next ⟨seen ++ [b], v', j'⟩ ?_ ⟨hq1, hq2, ?_, hj'⟩ ?_ rfl
    · simp only [List.length_append, List.length_cons, List.length_nil] at hq3 ⊢; omega
    · rw [Kl] at hv'; simpa [metF] using hv'
    · simp (disch := omega) only [go_sem, seval]
set_option maxRecDepth 100000 in
theorem collectS_calls (Γ : Nat → Option (List AV)) (M c : Nat) (f : Int → AV) (ks : List Int) (h : AH) (hM : h[M]? = some (.map (entsA f 0 ks) ks.length)) (hc : h[c]? = some (.row [.map (some M)] 89)) (hl : ks.length ≤ 100000) :
    ACalls Try.prog Γ 79 [.func 85 [] [.ptr (some (c, 0))]] h fun v h' => ∃ j ls, h' = h ++ j ∧ ls.Perm ks ∧ OwnM h.length j 3 v (encI ls) := by
  refine acalls_code (rs := [.tmp 2]) Try.func79 rfl rfl rfl rfl Ty.mixed (by kernel_rfl) ?_
  simp (disch := omega) only [go_sem, seval]
  refine ACalls.then (appendSeqS_calls Γ M c f ks _ hM hc hl) ?_
  rintro v _ ⟨j, ls, rfl, h1, h2⟩
  simp (disch := omega) only [go_sem, seval]
  exact ⟨j, ls, rfl, h1, h2⟩
set_option maxRecDepth 100000 in
theorem sortedS_calls (Γ : Nat → Option (List AV)) (M c : Nat) (f : Int → AV) (ks : List Int) (h : AH) (hM : h[M]? = some (.map (entsA f 0 ks) ks.length)) (hc : h[c]? = some (.row [.map (some M)] 89)) (hl : ks.length ≤ 100000) :
    ACalls Try.prog Γ 44 [.func 85 [] [.ptr (some (c, 0))]] h fun v h' => h' = h ∧ v = .sl (encI (sortI ks)) .free := by
  refine ACalls.endM ?_
  refine acalls_code (rs := [.tmp 2]) Try.func44 rfl rfl rfl rfl Ty.mixed (by kernel_rfl) ?_
  simp (disch := omega) only [go_sem, seval]
  refine ACalls.then (collectS_calls Γ M c f ks _ hM hc hl) ?_
  rintro v _ ⟨j, ls, rfl, hperm, hv⟩
  have hlen : ls.length ≤ 100000 := by rw [hperm.length_eq]; exact hl
  have hsrt : sortI ls = sortI ks := sortI_of (sortI_le _) ((sortI_perm _).trans hperm)
  have hvc : v.cells = [v] := by rcases hv with ⟨rfl, _⟩ | ⟨_, _, _, rfl, _⟩ <;> rfl
  have hvg : v.good = true := by rcases hv with ⟨rfl, _⟩ | ⟨_, _, _, rfl, _⟩ <;> rfl
  simp (disch := omega) only [go_sem, seval]
  have hso := sortM_calls Γ h j [] 3 v _ hv (by omega)
  rw [List.append_nil] at hso
  refine ACalls.then hso ?_
  rintro _ _ ⟨j', hj', rfl, hv'⟩
  rw [List.append_nil]
  simp (disch := omega) only [go_sem, seval]
  rw [hsrt] at hv'
  rcases hv' with ⟨rfl, hnil⟩ | ⟨q, c, pad, rfl, hq, hc', hp⟩
  · left
    have : sortI ks = [] := by
      cases hm : sortI ks with
      | nil => rfl
      | cons a r => rw [hm] at hnil; simp [encI] at hnil
    rw [this]
    exact ⟨of_eq_true (rb_I _ []), rfl⟩
  · right
    refine ⟨q, encI (sortI ks) ++ pad, 3, hq, ?_⟩
    rw [encI_len] at hc'
    have hfo := fz_own (h.length + q) c (sortI ks) pad (by omega) hp
    rw [encI_len, hfo]
    simp (disch := omega) only [go_sem, seval]
end Go.Proofs.Ytelehpccfaedjaa
