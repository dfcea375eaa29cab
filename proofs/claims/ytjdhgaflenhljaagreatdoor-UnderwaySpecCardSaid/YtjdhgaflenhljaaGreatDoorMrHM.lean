/- Texts joined: UnR, UnS, UnT. No conditions. -/
import Derived.Test.YtjdhgaflenhljaaGreatDoorMrHJ
/- The reference's Time, CheckAll, Force. No conditions. -/
set_option linter.unusedSimpArgs false
set_option linter.unusedVariables false
namespace Go.Proofs.YtjdhgaflenhljaaGreatDoor
open Go Go.Proofs Go.Abs

theorem rtime_calls (Γ : Nat → Option (List AV)) (n : Int) (h : AH) : ACalls Tryz.prog Γ 19 [.int .i64 n] h fun v h' => h' = h ∧ v = .bool (timeF n) := by
  refine ACalls.drop ?_
  have hd : timeF n = decide (0 ≤ n ∧ n ≤ 1099511627775) := rfl
  refine acalls_code (rs := [.tmp 2]) Tryz.func19 rfl rfl rfl rfl Ty.mixed (by kernel_rfl) ?_
  simp (disch := omega) only [go_sem, seval]
  refine aIf.intro (fun h1 => ?_) (fun h1 => ?_) <;> simp (disch := omega) only [go_sem, seval]
  · rw [hd]; congr 1; apply decide_eq_decide.2; omega
  · rw [hd, decide_eq_false (by omega)]
set_option maxHeartbeats 1600000 in
set_option maxRecDepth 100000 in
theorem rcheckAll_calls (Γ : Nat → Option (List AV)) (l : List Vs) (h : AH) (C : VsC l) :
    ACalls Tryz.prog Γ 18 [.sl (l.map encV) .free] h fun v h' => h' = h ∧ v = .int .i64 (chkAll l) := by
  have hn := C.n
  refine ACalls.drop ?_
  refine acalls_code (rs := [.tmp 2]) Tryz.func18 rfl rfl rfl rfl Ty.mixed (by kernel_rfl) ?_
  simp (disch := omega) only [go_sem, seval, List.length_map]
  refine aIf.intro (fun h1 => ?_) (fun h1 => ?_) <;> simp (disch := omega) only [go_sem, seval, List.length_map]
  · rw [chkAll, if_pos (by omega)]
  have hd : chkAll l = if vsOk (-1) l then 0 else 200 := by rw [chkAll, if_neg (by omega)]
  have hsm := C.v (by omega)
  refine awp_loopL (β := AH) l [0, 3] (fun don b => [(0, .sl (l.map encV) .free), (3, .int .i64 don.length)]) (fun b => h ++ b) (fun don rest b => vsOk (-1) l = vsOk ((don.getLast?.map Vs.no).getD (-1)) rest ∧ ∀ x ∈ don, 0 ≤ x.no) [] ?_ (by simp) ⟨rfl, fun x hx => by cases hx⟩ Ty.mixed (by kernel_rfl) ?_ ?_
  · simp (disch := omega) only [go_sem, seval, List.length_nil]
  · rintro don x r j hdn ⟨hv, hb⟩
    have hlen : l.length = don.length + 1 + r.length := by rw [hdn]; simp; omega
    have e1 : (l.map encV)[don.length]? = some (encV x) := by rw [hdn]; exact rowMid ..
    have hx := hsm x (by rw [hdn]; simp)
    have c1 := fun h => rcheck_calls Γ x.p h hx.sh
    obtain ⟨last, hlast⟩ : ∃ last, last = (don.getLast?.map Vs.no).getD (-1) := ⟨_, rfl⟩
    rw [← hlast] at hv
    have hnx : ((don ++ [x]).getLast?.map Vs.no).getD (-1) = x.no := by simp
    rw [encPol_eq] at c1
    rw [encV_eq] at e1
    rw [vsOk, vOk] at hv
    have bad : ¬ (last + 1 ≤ x.no ∧ x.no ≤ 1048576) → chkAll l = 200 := fun e => by rw [hd, hv, decide_eq_false e]; rfl
    have hl0 : -1 ≤ last := by
      rw [hlast]
      cases hg : don.getLast? with
      | none => simp
      | some z => have := hb z (List.mem_of_getLast? hg); simp; omega
    simp (disch := omega) only [go_sem, seval, List.length_map]
    refine aIf.pos (by omega) ?_
    simp (disch := omega) only [go_sem, seval, e1, List.length_map]
    refine aIf.intro (fun h2 => ?_) (fun h2 => ?_) <;> simp (disch := omega) only [go_sem, seval]
    · rw [bad (by omega)]
    refine aIf.intro (fun h3 => ?_) (fun h3 => ?_) <;> simp (disch := omega) only [go_sem, seval]
    · rw [bad (by omega)]
    have tv : ∀ n, decide (0 ≤ n ∧ n ≤ 1099511627775) = timeF n := fun n => rfl
    rw [tv, tv] at hv
    have badt : timeF x.tm = false → chkAll l = 200 := fun e => by rw [hd, hv, e]; simp
    have badk : timeF x.kn = false → chkAll l = 200 := fun e => by rw [hd, hv, e]; simp
    have badc : ¬ checkF x.p = 0 → chkAll l = 200 := fun e => by rw [hd, hv, decide_eq_false e]; simp
    have okt : timeF x.tm = true → timeF x.tm = true := id
    have okk : timeF x.kn = true → timeF x.kn = true := id
    have nb : ∀ z ∈ don ++ [x], 0 ≤ z.no := fun z hz => by
      rcases List.mem_append.1 hz with hz | hz
      · exact hb z hz
      · rw [List.mem_singleton] at hz; subst hz; omega
    refine aIf.intro (fun h4 => ?_) (fun h4 => ?_) <;> simp (disch := omega) only [go_sem, seval, List.length_map]
    · have hd1 : ((don.length : Int) - 1).toNat = don.length - 1 := by omega
      obtain ⟨z, hz⟩ : ∃ z, don[don.length - 1]? = some z := ⟨don[don.length - 1]'(by omega), List.getElem?_eq_getElem _⟩
      have hzl : l[don.length - 1]? = some z := by rw [hdn, List.getElem?_append_left (by omega)]; exact hz
      have e2 : (l.map encV)[don.length - 1]? = some (encV z) := by rw [List.getElem?_map, hzl]; rfl
      have hlz : last = z.no := by rw [hlast, List.getLast?_eq_getElem?, hz]; rfl
      rw [encV_eq] at e2
      refine ⟨by omega, ?_⟩
      rw [hd1, e2]
      simp (disch := omega) only [go_sem, seval]
      refine aIf.intro (fun h8 => ?_) (fun h8 => ?_) <;> simp (disch := omega) only [go_sem, seval]
      · rw [bad (by omega)]
      have ord : last + 1 ≤ x.no ∧ x.no ≤ 1048576 := by omega
      refine aCallF.intro (fun _ => rtime_calls Γ _ _) ?_
      cases h5 : timeF x.tm <;> simp (disch := omega) only [go_sem, seval]
      · rw [badt h5]
      refine aCallF.intro (fun _ => rtime_calls Γ _ _) ?_
      cases h6 : timeF x.kn <;> simp (disch := omega) only [go_sem, seval]
      · rw [badk h6]
      refine aCallF.intro (fun _ => c1 _) ?_
      simp (disch := omega) only [go_sem, seval]
      refine aIf.intro (fun h7 => ?_) (fun h7 => ?_) <;> simp (disch := omega) only [go_sem, seval]
      · refine roundL_next (j ++ [rowV x]) ⟨?_, nb⟩ ?_ (by simp [rowV])
        · rw [hnx, hv, decide_eq_true ord, okt h5, okk h6, decide_eq_true h7]; rfl
        · simp (disch := omega) only [go_sem, seval, List.length_append]
      · rw [badc h7]
    · have hdn0 : don = [] := List.eq_nil_of_length_eq_zero (by omega)
      have hl1 : last = -1 := by rw [hlast, hdn0]; rfl
      have ord : last + 1 ≤ x.no ∧ x.no ≤ 1048576 := by omega
      refine aCallF.intro (fun _ => rtime_calls Γ _ _) ?_
      cases h5 : timeF x.tm <;> simp (disch := omega) only [go_sem, seval]
      · rw [badt h5]
      refine aCallF.intro (fun _ => rtime_calls Γ _ _) ?_
      cases h6 : timeF x.kn <;> simp (disch := omega) only [go_sem, seval]
      · rw [badk h6]
      refine aCallF.intro (fun _ => c1 _) ?_
      simp (disch := omega) only [go_sem, seval]
      refine aIf.intro (fun h7 => ?_) (fun h7 => ?_) <;> simp (disch := omega) only [go_sem, seval]
      · refine roundL_next (j ++ [rowV x]) ⟨?_, nb⟩ ?_ (by simp [rowV])
        · rw [hnx, hv, decide_eq_true ord, okt h5, okk h6, decide_eq_true h7]; rfl
        · simp (disch := omega) only [go_sem, seval, List.length_append]
      · rw [badc h7]
  · rintro j ⟨hv, hb⟩
    simp (disch := omega) only [go_sem, seval, List.length_map]
    refine AWP.keep [] (aCode_ok Ty.mixed _ _ _ _ (by kernel_rfl) ?_)
    simp (disch := omega) only [go_sem, seval]
    rw [hd, hv]; rfl
/-- The index of a version, if there is one. -/
def idxV (l : List Vs) (o : Option Vs) : Int := match o with
  | none => -1
  | some y => (l.findIdx fun x => decide (x.no = y.no) : Nat)
theorem idxV_at {l : List Vs} (hG : VsG l) {k : Nat} {y : Vs} (h : l[k]? = some y) : idxV l (some y) = k := by
  have hk := (List.getElem?_eq_some_iff.1 h).1
  have : l.findIdx (fun x => decide (x.no = y.no)) = k := by
    have h2 : (l.findIdx fun x => decide (x.no = y.no)) < l.length := List.findIdx_lt_length_of_exists ⟨y, List.mem_of_getElem? h, by simp⟩
    have h3 := List.findIdx_getElem (w := h2)
    have h4 := of_decide_eq_true h3
    have h5 := no_inj hG (List.getElem_mem h2) (List.mem_of_getElem? h) h4
    obtain ⟨q1, q2⟩ := List.getElem?_eq_some_iff.1 h
    rcases Nat.lt_trichotomy (l.findIdx fun x => decide (x.no = y.no)) k with c | c | c
    · have := List.pairwise_iff_getElem.1 hG.inc _ _ h2 q1 c
      rw [h5, q2] at this; omega
    · exact c
    · have := List.pairwise_iff_getElem.1 hG.inc _ _ q1 h2 c
      rw [h5, q2] at this; omega
  rw [idxV, this]
theorem idxV_some {l : List Vs} (hG : VsG l) {y : Vs} (h : y ∈ l) : ∃ k : Nat, idxV l (some y) = k ∧ l[k]? = some y := by
  obtain ⟨k, hk⟩ := List.mem_iff_getElem?.1 h
  exact ⟨k, idxV_at hG hk, hk⟩
set_option maxHeartbeats 1600000 in
set_option maxRecDepth 100000 in
theorem rforce_calls (Γ : Nat → Option (List AV)) (l : List Vs) (t kn : Int) (h : AH) (hG : VsG l) :
    ACalls Tryz.prog Γ 20 [.sl (l.map encV) .free, .int .i64 t, .int .i64 kn] h fun v h' => h' = h ∧ v = .int .i64 (idxV l (forceV t kn l)) := by
  have hn := hG.n
  refine ACalls.drop ?_
  refine acalls_code (rs := [.tmp 6]) Tryz.func20 rfl rfl rfl rfl Ty.mixed (by kernel_rfl) ?_
  simp (disch := omega) only [go_sem, seval, List.length_map]
  refine awp_loopL (β := Unit) l [0, 1, 2, 7, 8] (fun don b => [(0, .sl (l.map encV) .free), (1, .int .i64 t), (2, .int .i64 kn), (7, .int .i64 (idxV l (forceV t kn don))), (8, .int .i64 don.length)]) (fun _ => h) (fun _ _ _ => True) () ?_ rfl trivial Ty.mixed (by kernel_rfl) ?_ ?_
  · simp (disch := omega) only [go_sem, seval, List.length_nil]
    rfl
  · rintro don x r _ hdn -
    have hlen : l.length = don.length + 1 + r.length := by rw [hdn]; simp; omega
    have e1 : (l.map encV)[don.length]? = some (encV x) := by rw [hdn]; exact rowMid ..
    have hx : l[don.length]? = some x := by rw [hdn]; simp
    have hi := idxV_at hG hx
    have hs := force_snoc t kn don x
    rw [encV_eq] at e1
    simp (disch := omega) only [go_sem, seval, List.length_map]
    refine aIf.pos (by omega) ?_
    simp (disch := omega) only [go_sem, seval, e1, List.length_map]
    refine aIf.intro (fun h2 => ?_) (fun h2 => ?_) <;> simp (disch := omega) only [go_sem, seval, e1, List.length_map]
    rotate_left
    · refine roundL_next () trivial ?_ rfl
      rw [hs, fstep_no (fun e => h2 e.1)]
      simp (disch := omega) only [go_sem, seval, List.length_append]
    refine aIf.intro (fun h3 => ?_) (fun h3 => ?_) <;> simp (disch := omega) only [go_sem, seval, e1, List.length_map]
    rotate_left
    · refine roundL_next () trivial ?_ rfl
      rw [hs, fstep_no (fun e => h3 e.2.1)]
      simp (disch := omega) only [go_sem, seval, List.length_append]
    cases ho : forceV t kn don with
    | none =>
      refine aIf.pos (by simp [idxV]) ?_
      simp (disch := omega) only [go_sem, seval]
      refine roundL_next () trivial ?_ rfl
      rw [hs, ho, fstep_yes (o := none) ⟨h2, h3, rfl⟩, hi]
      simp (disch := omega) only [go_sem, seval, List.length_append]
    | some y =>
      have hyl : y ∈ l := by rw [hdn]; exact List.mem_append_left _ (force_mem ho).1
      obtain ⟨k, k1, k2⟩ := idxV_some hG hyl
      have e2 : (l.map encV)[k]? = some (encV y) := by rw [List.getElem?_map, k2]; rfl
      have kl := (List.getElem?_eq_some_iff.1 k2).1
      rw [encV_eq] at e2
      rw [k1]
      refine aIf.neg (by omega) ?_
      simp (disch := omega) only [go_sem, seval, e1, e2, List.length_map]
      refine aIf.intro (fun h6 => ?_) (fun h6 => ?_) <;> simp (disch := omega) only [go_sem, seval]
      · refine roundL_next () trivial ?_ rfl
        rw [hs, ho, fstep_yes (o := some y) ⟨h2, h3, decide_eq_true h6⟩, hi]
        simp (disch := omega) only [go_sem, seval, List.length_append]
      · refine roundL_next () trivial ?_ rfl
        rw [hs, ho, fstep_no (o := some y) (fun e => h6 (of_decide_eq_true e.2.2)), k1]
        simp (disch := omega) only [go_sem, seval, List.length_append]
  · rintro _ -
    simp (disch := omega) only [go_sem, seval, List.length_map]
    refine AWP.keep [7] (aCode_ok Ty.mixed _ _ _ _ (by kernel_rfl) ?_)
    simp (disch := omega) only [go_sem, seval]
end Go.Proofs.YtjdhgaflenhljaaGreatDoor

/- The reference's put, between, Judges. No conditions. -/
set_option linter.unusedSimpArgs false
set_option linter.unusedVariables false
namespace Go.Proofs.YtjdhgaflenhljaaGreatDoor
open Go Go.Proofs Go.Abs

def putF (n : Int) : List Int → List Int
  | [] => [n]
  | x :: r => if x < n then x :: putF n r else if x = n then x :: r else n :: x :: r
/-- How many are less, from the beginning. -/
def lessN (n : Int) : List Int → Nat
  | [] => 0
  | x :: r => if x < n then lessN n r + 1 else 0
theorem putF_eq (n : Int) : ∀ l : List Int, putF n l = if l[lessN n l]? = some n then l else l.take (lessN n l) ++ n :: l.drop (lessN n l)
  | [] => by simp [putF, lessN]
  | x :: r => by
    rw [putF, lessN]
    split
    · rw [putF_eq n r, List.getElem?_cons_succ]
      split
      · rfl
      · simp
    · simp only [List.getElem?_cons_zero, Option.some.injEq, List.take_zero, List.nil_append, List.drop_zero]
theorem lessN_snoc {n : Int} : ∀ {don r : List Int} {x : Int}, (∀ y ∈ don, y < n) → lessN n (don ++ x :: r) = if x < n then don.length + (lessN n r + 1) else don.length
  | [], r, x, _ => by simp [lessN]
  | y :: d, r, x, h => by
    rw [List.cons_append, lessN, if_pos (h y (by simp)), lessN_snoc fun z hz => h z (by simp [hz])]
    split <;> simp <;> omega
theorem lessN_all {n : Int} : ∀ {l : List Int}, (∀ y ∈ l, y < n) → lessN n l = l.length
  | [], _ => rfl
  | y :: r, h => by rw [lessN, if_pos (h y (by simp)), lessN_all fun z hz => h z (by simp [hz])]; rfl
theorem putF_mem (n m : Int) : ∀ l : List Int, m ∈ putF n l ↔ m = n ∨ m ∈ l
  | [] => by simp [putF]
  | x :: r => by
    rw [putF]
    split
    · rw [List.mem_cons, putF_mem n m r, List.mem_cons]
      exact ⟨fun h => by rcases h with h | h | h <;> simp [h], fun h => by rcases h with h | h | h <;> simp [h]⟩
    split
    · rename_i h1 h2
      subst h2
      rw [List.mem_cons]
      exact ⟨fun h => .inr h, fun h => h.elim (fun e => .inl e) id⟩
    · rw [List.mem_cons]
theorem putF_pw (n : Int) : ∀ l : List Int, l.Pairwise (· < ·) → (putF n l).Pairwise (· < ·)
  | [], _ => by simp [putF]
  | x :: r, h => by
    obtain ⟨h1, h2⟩ := List.pairwise_cons.1 h
    rw [putF]
    split
    · rename_i hx
      refine List.pairwise_cons.2 ⟨fun y hy => ?_, putF_pw n r h2⟩
      rcases (putF_mem n y r).1 hy with rfl | hy
      · exact hx
      · exact h1 y hy
    split
    · exact h
    · refine List.pairwise_cons.2 ⟨fun y hy => ?_, h⟩
      rcases List.mem_cons.1 hy with rfl | hy
      · omega
      · have := h1 y hy; omega
theorem putF_len (n : Int) : ∀ l : List Int, (putF n l).length ≤ l.length + 1
  | [] => by simp [putF]
  | x :: r => by
    rw [putF]
    split
    · have := putF_len n r; simp; omega
    split <;> simp
set_option maxHeartbeats 1600000 in
set_option maxRecDepth 100000 in
theorem rput_calls (Γ : Nat → Option (List AV)) (l : List Int) (n : Int) (h : AH) (hl : l.length ≤ 1000) :
    ACalls Tryz.prog Γ 39 [.sl (encI l) .free, .int .i64 n] h fun v h' => h' = h ∧ v = .sl (encI (putF n l)) .free := by
  refine ACalls.dropL ?_
  refine acalls_code (rs := [.tmp 4]) Tryz.func39 rfl rfl rfl rfl Ty.mixed (by kernel_rfl) ?_
  simp (disch := omega) only [go_sem, seval]
  refine awp_loopS (α := Nat) [0, 1, 5] (fun k => [(0, .sl (encI l) .free), (1, .int .i64 n), (5, .int .i64 k)]) (fun _ => h) (fun k => k ≤ l.length ∧ ∀ y ∈ l.take k, y < n) (fun k => l.length - k) 0 ?_ rfl ⟨Nat.zero_le _, fun y hy => by simp at hy⟩ Ty.mixed (by kernel_rfl) ?_
  · simp (disch := omega) only [go_sem, seval]
  rintro k ⟨hk, hy⟩
  simp (disch := omega) only [go_sem, seval, encI_len]
  have ex : (lessN n l = k) → (∃ x, l[k]? = some x ∧ ¬ x < n) ∨ k = l.length → True := fun _ _ => trivial
  refine aIf.intro (fun h1 => ?_) (fun h1 => ?_) <;> simp (disch := omega) only [go_sem, seval, encI_len]
  · obtain ⟨x, hx⟩ : ∃ x, l[k]? = some x := ⟨l[k]'(by omega), List.getElem?_eq_getElem _⟩
    have e1 : (encI l)[k]? = some (.int .i64 x) := by rw [encI, List.getElem?_map, hx]; rfl
    have hkl := (List.getElem?_eq_some_iff.1 hx).1
    have hsp : l = l.take k ++ x :: l.drop (k + 1) := by
      have := List.take_append_drop k l
      rw [List.drop_eq_getElem_cons hkl, (List.getElem?_eq_some_iff.1 hx).2] at this
      exact this.symm
    simp (disch := omega) only [go_sem, seval, e1, encI_len]
    refine aIf.intro (fun h2 => ?_) (fun h2 => ?_) <;> simp (disch := omega) only [go_sem, seval]
    · refine roundS_next (k + 1) (by omega) ⟨by omega, fun y hy2 => ?_⟩ ?_ rfl
      · rw [List.take_add_one, hx] at hy2
        rcases List.mem_append.1 hy2 with hy2 | hy2
        · exact hy y hy2
        · simp at hy2; subst hy2; exact h2
      · simp (disch := omega) only [go_sem, seval]
    · have hln : lessN n l = k := by
        have := lessN_snoc (n := n) (don := l.take k) (r := l.drop (k + 1)) (x := x) hy
        rw [← hsp, if_neg h2, List.length_take] at this
        omega
      have hp := putF_eq n l
      rw [hln] at hp
      refine AWP.keep [0, 1, 5] (aCode_ok Ty.mixed _ _ _ _ (by kernel_rfl) ?_)
      simp (disch := omega) only [go_sem, seval, encI_len]
      refine aIf.pos (by omega) ?_
      simp (disch := omega) only [go_sem, seval, e1, encI_len]
      refine aIf.intro (fun h3 => ?_) (fun h3 => ?_) <;> simp (disch := omega) only [go_sem, seval]
      · rw [hx, h3, if_pos rfl] at hp
        rw [hp]
      · rw [hx, if_neg (fun e => h3 (by cases e; rfl))] at hp
        have et : (encI l).take k = encI (l.take k) := by simp [encI, List.map_take]
        have ed : (encI l).drop k = encI (l.drop k) := by simp [encI, List.map_drop]
        have tl : (l.take k).length = k := by rw [List.length_take]; omega
        have dl : (l.drop k).length = l.length - k := List.length_drop
        rw [et]
        refine ⟨rowsOK_I l, by (try rw [encI_len]); omega, ?_⟩
        refine aAp_full (fun r hr => by cases hr) (rowsOK_I _) (by rw [encI_len]; simp; omega) (by rw [encI_len]; simp; omega) ?_
        simp (disch := omega) only [go_sem, seval]
        rw [encI_len, tl, Nat.zero_add, ← encI_one]
        refine aAp_arena (by rw [encI_len, tl]; simp) (rowsOK_I _) (rowsOK_I [n]) (by rw [encI_len, encI_len]; simp; omega) (by rw [encI_len, encI_len]; simp; omega) ?_
        rw [encI_len, encI_len, tl, So.encI_app2, List.length_singleton]
        simp (disch := omega) only [go_sem, seval, encI_len]
        refine ⟨rowsOK_I l, by (try rw [encI_len]); omega, ?_⟩
        rw [ed]
        have tn : (l.take k ++ [n]).length = k + 1 := by rw [List.length_append, tl]; rfl
        refine aAp_arena (by rw [encI_len, tn]; simp) (rowsOK_I _) (rowsOK_I _) (by rw [encI_len, encI_len, tn, dl]; omega) (by rw [encI_len, encI_len, tn, dl]; omega) ?_
        rw [So.encI_app2, List.append_assoc, List.singleton_append, ← hp]
        simp (disch := omega) only [go_sem, seval]
  · have hke : k = l.length := by omega
    have hln : lessN n l = k := by
      rw [hke] at hy ⊢
      rw [List.take_length] at hy
      exact lessN_all hy
    have hp := putF_eq n l
    rw [hln] at hp
    refine AWP.keep [0, 1, 5] (aCode_ok Ty.mixed _ _ _ _ (by kernel_rfl) ?_)
    simp (disch := omega) only [go_sem, seval, encI_len]
    refine aIf.neg (by omega) ?_
    simp (disch := omega) only [go_sem, seval, encI_len]
    rw [if_neg (by rw [hke, List.getElem?_eq_none (Nat.le_refl _)]; simp)] at hp
    have et : (encI l).take k = encI (l.take k) := by simp [encI, List.map_take]
    have ed : (encI l).drop k = encI (l.drop k) := by simp [encI, List.map_drop]
    have tl : (l.take k).length = k := by rw [List.length_take]; omega
    have dl : (l.drop k).length = l.length - k := List.length_drop
    rw [et]
    refine ⟨rowsOK_I l, by (try rw [encI_len]); omega, ?_⟩
    refine aAp_full (fun r hr => by cases hr) (rowsOK_I _) (by rw [encI_len]; simp; omega) (by rw [encI_len]; simp; omega) ?_
    simp (disch := omega) only [go_sem, seval]
    rw [encI_len, tl, Nat.zero_add, ← encI_one]
    refine aAp_arena (by rw [encI_len, tl]; simp) (rowsOK_I _) (rowsOK_I [n]) (by rw [encI_len, encI_len]; simp; omega) (by rw [encI_len, encI_len]; simp; omega) ?_
    rw [encI_len, encI_len, tl, So.encI_app2, List.length_singleton]
    simp (disch := omega) only [go_sem, seval, encI_len]
    refine ⟨rowsOK_I l, by (try rw [encI_len]); omega, ?_⟩
    rw [ed]
    have tn : (l.take k ++ [n]).length = k + 1 := by rw [List.length_append, tl]; rfl
    refine aAp_arena (by rw [encI_len, tn]; simp) (rowsOK_I _) (rowsOK_I _) (by rw [encI_len, encI_len, tn, dl]; omega) (by rw [encI_len, encI_len, tn, dl]; omega) ?_
    rw [So.encI_app2, List.append_assoc, List.singleton_append, ← hp]
    simp (disch := omega) only [go_sem, seval]
end Go.Proofs.YtjdhgaflenhljaaGreatDoor

/- The reference's between, Judges; the law Spec. No conditions. -/
set_option linter.unusedSimpArgs false
set_option linter.unusedVariables false
namespace Go.Proofs.YtjdhgaflenhljaaGreatDoor
open Go Go.Proofs Go.Abs

def putO (o : Option Vs) (out : List Int) : List Int := match o with
  | none => out
  | some y => putF y.no out
def betStep (l : List Vs) (begun at_ kn : Int) (out : List Int) (x : Vs) : List Int := if begun < x.tm ∧ x.tm ≤ at_ then putO (forceV x.tm kn l) out else out
def betF (l : List Vs) (begun at_ kn : Int) (don : List Vs) : List Int := don.foldl (betStep l begun at_ kn) (putO (forceV begun kn l) [])
theorem betF_snoc (l : List Vs) (begun at_ kn : Int) (don : List Vs) (x : Vs) : betF l begun at_ kn (don ++ [x]) = betStep l begun at_ kn (betF l begun at_ kn don) x := by simp [betF]
theorem putO_len (o : Option Vs) (out : List Int) : (putO o out).length ≤ out.length + 1 := by
  cases o with
  | none => simp [putO]
  | some y => exact putF_len _ _
theorem bet_fold (l : List Vs) (begun at_ kn : Int) : ∀ (r : List Vs) (out : List Int), out.Pairwise (· < ·) → (r.foldl (betStep l begun at_ kn) out).Pairwise (· < ·) ∧ (r.foldl (betStep l begun at_ kn) out).length ≤ out.length + r.length ∧ ∀ n, n ∈ r.foldl (betStep l begun at_ kn) out ↔ n ∈ out ∨ ∃ x ∈ r, begun < x.tm ∧ x.tm ≤ at_ ∧ ∃ y, forceV x.tm kn l = some y ∧ y.no = n
  | [], out, h => ⟨h, by simp, by simp⟩
  | x :: r, out, h => by
    have hp : (betStep l begun at_ kn out x).Pairwise (· < ·) := by
      rw [betStep]; split
      · cases forceV x.tm kn l with
        | none => exact h
        | some y => exact putF_pw _ _ h
      · exact h
    have hl : (betStep l begun at_ kn out x).length ≤ out.length + 1 := by
      rw [betStep]; split
      · exact putO_len _ _
      · omega
    have hm : ∀ n, n ∈ betStep l begun at_ kn out x ↔ n ∈ out ∨ (begun < x.tm ∧ x.tm ≤ at_ ∧ ∃ y, forceV x.tm kn l = some y ∧ y.no = n) := fun n => by
      rw [betStep]; split
      · rename_i hc
        cases hf : forceV x.tm kn l with
        | none => simp [putO]
        | some y =>
          rw [putO, putF_mem]
          constructor
          · rintro (rfl | h)
            · exact .inr ⟨hc.1, hc.2, y, rfl, rfl⟩
            · exact .inl h
          · rintro (h | ⟨_, _, z, e, rfl⟩)
            · exact .inr h
            · cases e; exact .inl rfl
      · rename_i hc
        exact ⟨.inl, fun e => e.elim id fun e => absurd ⟨e.1, e.2.1⟩ hc⟩
    obtain ⟨i1, i2, i3⟩ := bet_fold l begun at_ kn r _ hp
    rw [List.foldl_cons]
    refine ⟨i1, by simp; omega, fun n => ?_⟩
    rw [i3, hm]
    constructor
    · rintro ((h | h) | ⟨z, hz, h⟩)
      · exact .inl h
      · exact .inr ⟨x, by simp, h⟩
      · exact .inr ⟨z, by simp [hz], h⟩
    · rintro (h | ⟨z, hz, h⟩)
      · exact .inl (.inl h)
      · rcases List.mem_cons.1 hz with rfl | hz
        · exact .inl (.inr h)
        · exact .inr ⟨z, hz, h⟩
theorem pw_ext {a b : List Int} (ha : a.Pairwise (· < ·)) (hb : b.Pairwise (· < ·)) (h : ∀ n, n ∈ a ↔ n ∈ b) : a = b := by
  have hp := perm_ext (ha.imp fun h => by omega) (hb.imp fun h => by omega) h
  exact List.Perm.eq_of_pairwise (le := (· < ·)) (fun a b _ _ h1 h2 => by omega) ha hb hp
theorem bet_jud {l : List Vs} {begun at_ kn : Int} (hG : VsG l) (hb : begun ≤ at_) {y : Vs} (hy : forceV at_ kn l = some y) (h1 : y.p.mode ≠ 1) (h2 : y.p.mode ≠ 2) : betF l begun at_ kn l = (judF l begun at_ kn).1 := by
  obtain ⟨n1, n2⟩ := jud_all hG hb hy h1 h2
  have h0 : (putO (forceV begun kn l) []).Pairwise (· < ·) := by
    cases forceV begun kn l with
    | none => exact .nil
    | some z => exact putF_pw _ _ .nil
  obtain ⟨i1, _, i3⟩ := bet_fold l begun at_ kn l _ h0
  refine pw_ext i1 n1 fun n => ?_
  rw [n2, met_no hG]
  refine (i3 n).trans (or_congr ?_ Iff.rfl)
  cases forceV begun kn l with
  | none => simp [putO]
  | some z =>
    rw [putO, putF_mem]
    constructor
    · rintro (rfl | h)
      · exact ⟨z, hb, rfl, rfl⟩
      · cases h
    · rintro ⟨w, _, e, rfl⟩
      cases e; exact .inl rfl
set_option maxHeartbeats 1600000 in
set_option maxRecDepth 100000 in
theorem rbetween_calls (Γ : Nat → Option (List AV)) (l : List Vs) (begun at_ kn : Int) (h : AH) (hG : VsG l) :
    ACalls Tryz.prog Γ 21 [.sl (l.map encV) .free, .int .i64 begun, .int .i64 at_, .int .i64 kn] h fun v h' => h' = h ∧ v = .sl (encI (betF l begun at_ kn l)) .free := by
  have hn := hG.n
  have cf := fun t h => rforce_calls Γ l t kn h hG
  refine ACalls.dropL ?_
  refine acalls_of_awp (rs := [.tmp 8]) Tryz.func21 rfl rfl rfl rfl ?_
  refine awp_seq (aCode_ok Ty.mixed _ _ _ _ (by kernel_rfl) ?_)
  simp (disch := omega) only [go_sem, seval]
  refine awp_seq (aCode_ok Ty.mixed _ _ _ _ (by kernel_rfl) ?_)
  simp (disch := omega) only [go_sem, seval]
  refine awp_seq (aCode_ok Ty.mixed _ _ _ _ (by kernel_rfl) ?_)
  simp (disch := omega) only [go_sem, seval]
  refine ACalls.det (cf _ _) ?_
  simp (disch := omega) only [go_sem, seval]
  refine awp_gotU [0, 1, 2, 3, 9] (fun σ hy => hy = h ∧ ∃ own, σ = [(0, .sl (l.map encV) .free), (1, .int .i64 begun), (2, .int .i64 at_), (3, .int .i64 kn), (9, .sl (encI (putO (forceV begun kn l) [])) own)]) (aCode_ok Ty.mixed _ _ _ _ (by kernel_rfl) ?_) ?_
  · simp (disch := omega) only [go_sem, seval]
    cases hf : forceV begun kn l with
    | none =>
      refine aIf.neg (by simp [idxV]) ?_
      simp (disch := omega) only [go_sem, seval]
      exact ⟨.full, rfl⟩
    | some y =>
      obtain ⟨k, k1, k2⟩ := idxV_some hG (force_mem hf).1
      have e2 : (l.map encV)[k]? = some (encV y) := by rw [List.getElem?_map, k2]; rfl
      have kl := (List.getElem?_eq_some_iff.1 k2).1
      rw [encV_eq] at e2
      rw [k1]
      refine aIf.pos (by omega) ?_
      simp (disch := omega) only [go_sem, seval, e2, List.length_map]
      refine ACalls.ofLoose (ACalls.det (rput_calls Γ [] y.no _ (by simp)) ?_) (by simp [looseL, loose, encI])
      simp (disch := omega) only [go_sem, seval]
      exact ⟨.free, rfl⟩
  rintro σ hy ⟨rfl, own, rfl⟩
  refine aCode_ok Ty.mixed _ _ _ _ (by kernel_rfl) ?_
  simp (disch := omega) only [go_sem, seval]
  have bl : ∀ don r, l = don ++ r → (betF l begun at_ kn don).length ≤ 300 := fun don r e => by
    have h0 : (putO (forceV begun kn l) []).Pairwise (· < ·) := by
      cases forceV begun kn l with
      | none => exact .nil
      | some z => exact putF_pw _ _ .nil
    have i2 := (bet_fold l begun at_ kn don _ h0).2.1
    have := putO_len (forceV begun kn l) []
    have := congrArg List.length e
    simp at this
    rw [betF]
    simp at *
    omega
  refine awp_loopL (β := Abs.Own) l [0, 1, 2, 3, 9, 11] (fun don b => [(0, .sl (l.map encV) .free), (1, .int .i64 begun), (2, .int .i64 at_), (3, .int .i64 kn), (9, .sl (encI (betF l begun at_ kn don)) b), (11, .int .i64 don.length)]) (fun _ => hy) (fun _ _ _ => True) own ?_ rfl trivial Ty.mixed (by kernel_rfl) ?_ ?_
  · simp (disch := omega) only [go_sem, seval, List.length_nil]
    rfl
  · rintro don x r own hdn -
    have hlen : l.length = don.length + 1 + r.length := by rw [hdn]; simp; omega
    have e1 : (l.map encV)[don.length]? = some (encV x) := by rw [hdn]; exact rowMid ..
    have hb := bl don (x :: r) hdn
    have hs := betF_snoc l begun at_ kn don x
    rw [betStep] at hs
    rw [encV_eq] at e1
    simp (disch := omega) only [go_sem, seval, List.length_map]
    refine aIf.pos (by omega) ?_
    simp (disch := omega) only [go_sem, seval, e1, List.length_map]
    refine aIf.intro (fun h2 => ?_) (fun h2 => ?_) <;> simp (disch := omega) only [go_sem, seval, e1, List.length_map]
    rotate_left
    · rw [if_neg (fun e => h2 e.1)] at hs
      refine roundL_next own trivial ?_ rfl
      simp (disch := omega) only [go_sem, seval, List.length_append, hs]
    refine aIf.intro (fun h3 => ?_) (fun h3 => ?_) <;> simp (disch := omega) only [go_sem, seval, e1, List.length_map]
    rotate_left
    · rw [if_neg (fun e => h3 e.2)] at hs
      refine roundL_next own trivial ?_ rfl
      simp (disch := omega) only [go_sem, seval, List.length_append, hs]
    rw [if_pos ⟨h2, h3⟩] at hs
    refine ACalls.det (cf _ _) ?_
    simp (disch := omega) only [go_sem, seval]
    cases hf : forceV x.tm kn l with
    | none =>
      rw [hf] at hs
      refine aIf.neg (by simp [idxV]) ?_
      simp (disch := omega) only [go_sem, seval]
      refine roundL_next own trivial ?_ rfl
      simp (disch := omega) only [go_sem, seval, List.length_append, hs]
      rfl
    | some y =>
      rw [hf] at hs
      obtain ⟨k, k1, k2⟩ := idxV_some hG (force_mem hf).1
      have e2 : (l.map encV)[k]? = some (encV y) := by rw [List.getElem?_map, k2]; rfl
      have kl := (List.getElem?_eq_some_iff.1 k2).1
      have cfx := fun h => cf x.tm h
      rw [hf, k1] at cfx
      rw [encV_eq] at e2
      rw [k1]
      refine aIf.pos (by omega) ?_
      simp (disch := omega) only [go_sem, seval, e1, List.length_map]
      refine ACalls.det (cfx _) ?_
      simp (disch := omega) only [go_sem, seval, e2, List.length_map]
      refine ACalls.ofLoose (ACalls.det (rput_calls Γ (betF l begun at_ kn don) y.no _ (by omega)) ?_) (by simp [looseL, loose, loose_I])
      simp (disch := omega) only [go_sem, seval]
      refine roundL_next .free trivial ?_ rfl
      simp (disch := omega) only [go_sem, seval, List.length_append, hs]
      rfl
  · rintro own -
    simp (disch := omega) only [go_sem, seval, List.length_map]
    refine AWP.keep [9] (aCode_ok Ty.mixed _ _ _ _ (by kernel_rfl) ?_)
    simp (disch := omega) only [go_sem, seval]
set_option maxHeartbeats 1600000 in
set_option maxRecDepth 100000 in
theorem rjudges_calls (Γ : Nat → Option (List AV)) (l : List Vs) (begun at_ kn : Int) (h : AH) (C : VsC l) :
    ACalls Tryz.prog Γ 7 [.sl (l.map encV) .free, .int .i64 begun, .int .i64 at_, .int .i64 kn] h fun v h' => h' = h ∧ v = .tuple [.sl (encI (judgesF l begun at_ kn).1) .free, .int .i64 (judgesF l begun at_ kn).2.1, .int .i64 (judgesF l begun at_ kn).2.2] := by
  have hn := C.n
  have hd : judgesF l begun at_ kn = if chkAll l ≠ 0 then ([], 0, chkAll l) else if timeF begun = true ∧ timeF at_ = true ∧ timeF kn = true ∧ begun ≤ at_ then ((judF l begun at_ kn).1, (judF l begun at_ kn).2, 0) else ([], 0, 1) := rfl
  refine ACalls.dropL ?_
  refine acalls_code (rs := [.tmp 8, .tmp 9, .tmp 10]) Tryz.func7 rfl rfl rfl rfl Ty.mixed (by kernel_rfl) ?_
  simp (disch := omega) only [go_sem, seval]
  refine ACalls.det (rcheckAll_calls Γ l _ C) ?_
  simp (disch := omega) only [go_sem, seval]
  refine aIf.intro (fun h1 => ?_) (fun h1 => ?_) <;> simp (disch := omega) only [go_sem, seval]
  rotate_left
  · rw [if_pos h1] at hd
    rw [hd]; rfl
  rw [if_neg (fun e => e h1)] at hd
  have hG := chkAll_ok h1
  have cf := fun t h => rforce_calls Γ l t kn h hG
  have ct := fun n h => rtime_calls Γ n h
  have bad : ¬ (timeF begun = true ∧ timeF at_ = true ∧ timeF kn = true ∧ begun ≤ at_) → (AV.tuple [.sl [] .free, .int .i64 0, .int .i64 1]) = .tuple [.sl (encI (judgesF l begun at_ kn).1) .free, .int .i64 (judgesF l begun at_ kn).2.1, .int .i64 (judgesF l begun at_ kn).2.2] := fun e => by rw [hd, if_neg e]; rfl
  refine ACalls.det (ct _ _) ?_
  cases h2 : timeF begun <;> simp (disch := omega) only [go_sem, seval]
  · exact bad (by rw [h2]; simp)
  refine ACalls.det (ct _ _) ?_
  cases h3 : timeF at_ <;> simp (disch := omega) only [go_sem, seval]
  · exact bad (by rw [h3]; simp)
  refine ACalls.det (ct _ _) ?_
  cases h4 : timeF kn <;> simp (disch := omega) only [go_sem, seval]
  · exact bad (by rw [h4]; simp)
  refine aIf.intro (fun h5 => ?_) (fun h5 => ?_) <;> simp (disch := omega) only [go_sem, seval]
  · exact bad (by omega)
  rw [if_pos ⟨h2, h3, h4, by omega⟩] at hd
  have hb : begun ≤ at_ := by omega
  rw [hd]
  refine ACalls.det (cf _ _) ?_
  simp (disch := omega) only [go_sem, seval]
  cases hf : forceV at_ kn l with
  | none =>
    refine aIf.pos (by simp [idxV]) ?_
    simp (disch := omega) only [go_sem, seval]
    rw [judF, if_pos ((met_none hG hb).2 hf)]; rfl
  | some y =>
    obtain ⟨k, k1, k2⟩ := idxV_some hG (force_mem hf).1
    have e2 : (l.map encV)[k]? = some (encV y) := by rw [List.getElem?_map, k2]; rfl
    have kl := (List.getElem?_eq_some_iff.1 k2).1
    obtain ⟨m0, m1, m2⟩ := met_some hG hb hf
    have hmo : (judF l begun at_ kn).2 = y.p.mode := by rw [judF, if_neg m0, m1]
    rw [encV_eq] at e2
    rw [k1, hmo]
    refine aIf.neg (by omega) ?_
    simp (disch := omega) only [go_sem, seval, e2, List.length_map]
    refine aIf.intro (fun h6 => ?_) (fun h6 => ?_) <;> simp (disch := omega) only [go_sem, seval]
    · obtain ⟨o1, o2⟩ := jud_old hG hb hf h6
      refine ACalls.det (cf _ _) ?_
      simp (disch := omega) only [go_sem, seval]
      cases hg : forceV begun kn l with
      | none =>
        refine aIf.pos (by simp [idxV]) ?_
        simp (disch := omega) only [go_sem, seval]
        rw [o1 hg]; rfl
      | some z =>
        obtain ⟨q, q1, q2⟩ := idxV_some hG (force_mem hg).1
        have e3 : (l.map encV)[q]? = some (encV z) := by rw [List.getElem?_map, q2]; rfl
        have ql := (List.getElem?_eq_some_iff.1 q2).1
        rw [encV_eq] at e3
        rw [q1]
        refine aIf.neg (by omega) ?_
        simp (disch := omega) only [go_sem, seval, e3, List.length_map]
        rw [o2 z hg]
        exact ⟨of_eq_true (rb_I _ [_]), rfl⟩
    refine aIf.intro (fun h7 => ?_) (fun h7 => ?_) <;> simp (disch := omega) only [go_sem, seval, e2, List.length_map]
    · rw [jud_new hG hb hf h7]
      exact ⟨of_eq_true (rb_I _ [_]), rfl⟩
    refine ACalls.det (rbetween_calls Γ l begun at_ kn _ hG) ?_
    rw [bet_jud hG hb hf h6 h7]
    simp (disch := omega) only [go_sem, seval]
set_option maxRecDepth 100000 in
theorem lawSpec_calls (Γ : Nat → Option (List AV)) (hΓ : Γ 0 = some kindsC) (l : List Vs) (begun at_ kn : Int) (h : AH) (F : FwV l) :
    ACalls Tryz.prog Γ 3 [.sl (l.map encV) .free, .int .i64 begun, .int .i64 at_, .int .i64 kn] h fun v h' => h' = h ∧ v = .bool true := by
  refine ACalls.drop ?_
  refine acalls_code (rs := [.tmp 8]) Tryz.func3 rfl rfl rfl rfl Ty.mixed (by kernel_rfl) ?_
  simp (disch := omega) only [go_sem, seval]
  refine ACalls.det (sane27_calls Γ hΓ _) ?_
  simp (disch := omega) only [go_sem, seval]
  refine ACalls.det (fewV_calls Γ l _ F.n F.sh) ?_
  cases hf : fewVF l <;> simp (disch := omega) only [go_sem, seval]
  obtain ⟨C, hc⟩ := few_vsC F hf
  have hlen := judges_len (begun := begun) (at_ := at_) (kn := kn) hc
  refine ACalls.det (judges0_calls Γ hΓ l begun at_ kn _ C hc) ?_
  simp (disch := omega) only [go_sem, seval]
  refine ACalls.det (rjudges_calls Γ l begun at_ kn _ C) ?_
  simp (disch := omega) only [go_sem, seval]
  refine ACalls.det (sameInts_calls Γ _ _ _ (by omega) (by omega)) ?_
  simp only [decide_true]
  simp (disch := omega) only [go_sem, seval]
end Go.Proofs.YtjdhgaflenhljaaGreatDoor
