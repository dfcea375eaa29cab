/- Texts joined: RefD, RefE, RefF. No conditions. -/
import Derived.Test.YtelehpccfaedjaaGreatMrI
/- The reference's lists of people: without others, in both; equal lists; few. No conditions. -/
set_option linter.unusedSimpArgs false
set_option linter.unusedVariables false
namespace Go.Proofs.YtelehpccfaedjaaGreat
open Go Go.Proofs Go.Abs

def wtF (l out : List Int) : List Int := l.filter fun x => !decide (x ∈ out)
def bothF (a b : List Int) : List Int := a.filter fun x => decide (x ∈ b)
structure FlS where
  l : List Int
  own : Abs.Own
  j : AH
set_option maxRecDepth 100000 in
theorem without_calls (Γ : Nat → Option (List AV)) (l out : List Int) (h : AH) (hl : l.length ≤ 1000000) (ho : out.length ≤ 1000000) :
    ACalls Tryz.prog Γ 49 [.sl (encI l) .free, .sl (encI out) .free] h fun v h' => h' = h ∧ v = .sl (encI (wtF l out)) .free := by
  refine ACalls.dropL ?_
  refine acalls_code (rs := [.tmp 4]) Tryz.func49 rfl rfl rfl rfl Ty.mixed (by kernel_rfl) ?_
  simp (disch := omega) only [go_sem, seval]
  refine awp_loopL (β := FlS) l [0, 1, 5, 6] (fun don s => [(0, .sl (encI l) .free), (1, .sl (encI out) .free), (5, .sl (encI s.l) s.own), (6, .int .i64 don.length)])
    (fun s => h ++ s.j) (fun don r s => OwnAt h s.j s.l.length s.own ∧ s.l = wtF don out) ⟨[], .full, []⟩ ?_ (by simp) ⟨trivial, rfl⟩ Ty.mixed (by kernel_rfl) ?_ ?_
  · simp (disch := omega) only [go_sem, seval, encI, List.map_nil]
  · rintro don x r ⟨m, own, j⟩ rfl ⟨ho', hm⟩
    simp only at ho' hm ⊢
    have hl3 := len_mid hl
    have hml : m.length ≤ don.length := by rw [hm]; exact List.length_filter_le _ _
    have e1 : (encI (don ++ x :: r))[don.length]? = some (.int .i64 x) := by simp [encI]
    simp (disch := omega) only [go_sem, seval, encI_len, List.length_append, List.length_cons]
    refine aIf.pos (by omega) ?_
    simp (disch := omega) only [go_sem, seval, encI_len, List.length_append, List.length_cons, e1]
    refine ACalls.det (has_calls Γ out x _ (by omega)) ?_
    simp (disch := omega) only [go_sem, seval]
    refine aIf.intro (fun h1 => ?_) (fun h1 => ?_) <;> simp (disch := omega) only [go_sem, seval]
    · refine roundL_next ⟨m, own, j⟩ ⟨ho', ?_⟩ ?_ rfl
      · rw [hm]; simp [wtF, h1]
      · simp (disch := omega) only [go_sem, seval, List.length_append]
    · simp (disch := omega) only [go_sem, seval, encI_len, List.length_append, List.length_cons, e1]
      refine aAp_sl (by rw [encI_len]; exact ho') (rowsOK_I _) (rowsOK_I [x]) (by simp [encI_len]; omega) (by simp [encI_len]; omega) fun j' own' ho2 hg => ?_
      rw [encI_snoc]
      simp (disch := omega) only [go_sem, seval]
      refine roundL_next ⟨m ++ [x], own', j'⟩ ⟨?_, ?_⟩ ?_ rfl
      · simpa [encI_len] using ho2
      · rw [hm]; simp [wtF, h1]
      · simp (disch := omega) only [go_sem, seval, List.length_append]
  · rintro ⟨m, own, j⟩ ⟨ho', hm⟩
    simp only at hm
    simp (disch := omega) only [go_sem, seval, encI_len]
    refine AWP.keep [5] (aCode_ok Ty.mixed _ _ _ _ (by kernel_rfl) ?_)
    simp (disch := omega) only [go_sem, seval]
    rw [hm]
set_option maxRecDepth 100000 in
theorem inside_calls (Γ : Nat → Option (List AV)) (a b : List Int) (h : AH) (hl : a.length ≤ 1000000) (ho : b.length ≤ 1000000) :
    ACalls Tryz.prog Γ 33 [.sl (encI a) .free, .sl (encI b) .free] h fun v h' => h' = h ∧ v = .bool (decide (∀ x ∈ a, x ∈ b)) := by
  refine ACalls.drop ?_
  refine acalls_code (rs := [.tmp 4]) Tryz.func33 rfl rfl rfl rfl Ty.mixed (by kernel_rfl) ?_
  simp (disch := omega) only [go_sem, seval]
  refine ACalls.det (without_calls Γ a b _ hl ho) ?_
  simp (disch := omega) only [go_sem, seval, encI_len]
  congr 1
  simp [wtF]
/-! ### Few -/
def few22F (g : Gt) : Bool := decide (leaves g 300 ≤ 60) || (decide (250 ≤ leaves g 300) && decide (leaves g 300 ≤ 300))
set_option maxRecDepth 100000 in
theorem few22_calls (Γ : Nat → Option (List AV)) (g : Gt) (h : AH) (hs : Sh g) : ACalls Tryz.prog Γ 18 [encG g] h fun v h' => h' = h ∧ v = .bool (few22F g) := by
  refine ACalls.drop ?_
  refine acalls_code (rs := [.tmp 2]) Tryz.func18 rfl rfl rfl rfl Ty.mixed (by kernel_rfl) ?_
  simp (disch := omega) only [go_sem, seval]
  refine ACalls.det (leaves_calls Γ g 300 _ (by omega) (by omega)) ?_
  simp (disch := omega) only [go_sem, seval]
  refine aIf.intro (fun h1 => ?_) (fun h1 => ?_) <;> simp (disch := omega) only [go_sem, seval]
  · simp [few22F, h1]
  refine aIf.intro (fun h2 => ?_) (fun h2 => ?_) <;> simp (disch := omega) only [go_sem, seval]
  · simp [few22F, h1, h2]
  · simp [few22F, h1, h2]
def few24F (g : Gt) : Bool := few22F g && (decide (errF g ≠ 0) || (smallF g && decide ((pplF g).length ≤ 7)))
theorem small_leaves {g : Gt} (h : smallF g = true) : allLeaves g ≤ 60 := by
  simp [smallF] at h
  have := leaves_all g 60 (by omega)
  omega
end Go.Proofs.YtelehpccfaedjaaGreat

/- All sets of some people. No conditions. -/
set_option linter.unusedSimpArgs false
set_option linter.unusedVariables false
namespace Go.Proofs.YtelehpccfaedjaaGreat
open Go Go.Proofs Go.Abs

def encII (l : List (List Int)) : List AV := l.map fun s => .sl (encI s) .free
theorem encII_app (a b : List (List Int)) : encII (a ++ b) = encII a ++ encII b := by simp [encII]
theorem encII_len (l : List (List Int)) : (encII l).length = l.length := by simp [encII]
theorem encII_snoc (a : List (List Int)) (s : List Int) : encII a ++ [.sl (encI s) .free] = encII (a ++ [s]) := by simp [encII]
theorem loose_II (l : List (List Int)) : looseL (encII l) = encII l := looseL_maps _ (fun s => by rw [loose, loose_I]) l
theorem rb_II (n : Nat) (l : List (List Int)) : RB n (.sl (encII l) .free) = True := eq_true (.sl' fun r hr => by
  obtain ⟨s, _, rfl⟩ := List.mem_map.1 hr
  exact of_eq_true (rb_I n s))
theorem rowsOK_II (l : List (List Int)) : RowsOK 1 (encII l) := RowsOK.map (f := fun s => AV.sl (encI s) .free) (fun s => ⟨rfl, fun c hc => by simp [AV.cells] at hc; subst hc; rfl⟩) l
attribute [go_sem] loose_II rb_II
theorem looseL_snoc (l : List (List Int)) (x : Int) (t : List Int) (o : Abs.Own) : looseL (encII l ++ [.sl (.int .i64 x :: encI t) o]) = encII (l ++ [x :: t]) := by
  rw [looseL_map, List.map_append, ← looseL_map, loose_II]
  simp only [List.map_cons, List.map_nil, loose, looseL, loose_I]
  simp [encII, encI]
def chooseF : List Int → Nat → List (List Int)
  | _, 0 => [[]]
  | [], _ + 1 => []
  | x :: r, k + 1 => (chooseF r k).map (x :: ·) ++ chooseF r (k + 1)
theorem choose_short : ∀ (l : List Int) (k : Nat), l.length < k → chooseF l k = []
  | _, 0, h => by omega
  | [], k + 1, _ => by simp [chooseF]
  | x :: r, k + 1, h => by simp [chooseF, choose_short r k (by simp at h; omega), choose_short r (k + 1) (by simp at h; omega)]
theorem choose_pow : ∀ (l : List Int) (k : Nat), (chooseF l k).length ≤ 2 ^ l.length
  | l, 0 => by
    have : 1 ≤ 2 ^ l.length := Nat.one_le_two_pow
    cases l <;> simp [chooseF] <;> omega
  | [], k + 1 => by simp [chooseF]
  | x :: r, k + 1 => by
    have h1 := choose_pow r k
    have h2 := choose_pow r (k + 1)
    simp only [chooseF, List.length_append, List.length_map, List.length_cons, Nat.pow_succ]; omega
theorem choose_mem : ∀ (l : List Int) (k : Nat) (s : List Int), s ∈ chooseF l k → s.length = k
  | l, 0, s, h => by cases l <;> simp [chooseF] at h <;> simp [h]
  | [], k + 1, s, h => by simp [chooseF] at h
  | x :: r, k + 1, s, h => by
    simp only [chooseF, List.mem_append, List.mem_map] at h
    rcases h with ⟨t, ht, rfl⟩ | h
    · simp [choose_mem r k t ht]
    · exact choose_mem r (k + 1) s h
structure ChS where
  don : List Int
  rest : List Int
  out : List (List Int)
  own : Abs.Own
  j : AH
structure ChT where
  out : List (List Int)
  own : Abs.Own
  j : AH
set_option maxRecDepth 100000 in
theorem choose_calls (Γ : Nat → Option (List AV)) : ∀ (k : Nat) (l : List Int) (h : AH), l.length ≤ 12 → k ≤ 12 →
    ACalls Tryz.prog Γ 79 [.sl (encI l) .free, .int .i64 k] h fun v h' => h' = h ∧ v = .sl (encII (chooseF l k)) .free
  | 0, l, h, hl, _ => by
    refine ACalls.dropL ?_
    refine acalls_code (rs := [.tmp 4]) Tryz.func79 rfl rfl rfl rfl Ty.mixed (by kernel_rfl) ?_
    simp (disch := omega) only [go_sem, seval]
    have : chooseF l 0 = [[]] := by cases l <;> rfl
    rw [this]
    refine ⟨of_eq_true (rb_II _ [[]]), rfl⟩
  | k + 1, l, h, hl, hk => by
    refine ACalls.dropL ?_
    refine acalls_code (rs := [.tmp 4]) Tryz.func79 rfl rfl rfl rfl Ty.mixed (by kernel_rfl) ?_
    simp (disch := omega) only [go_sem, seval]
    refine aIf.neg (by omega) ?_
    simp (disch := omega) only [go_sem, seval]
    refine awp_loopS (α := ChS) [0, 1, 5, 6] (fun s => [(0, .sl (encI l) .free), (1, .int .i64 (k + 1 : Nat)), (5, .sl (encII s.out) s.own), (6, .int .i64 s.don.length)])
      (fun s => h ++ s.j) (fun s => l = s.don ++ s.rest ∧ OwnAt h s.j s.out.length s.own ∧ s.out ++ chooseF s.rest (k + 1) = chooseF l (k + 1)) (fun s => s.rest.length) ⟨[], l, [], .full, []⟩ ?_ (by simp) ⟨rfl, trivial, rfl⟩ Ty.mixed (by kernel_rfl) ?_
    · simp (disch := omega) only [go_sem, seval]
      simp [encII]
    rintro ⟨don, rest, out, own, j⟩ ⟨rfl, ho, hc⟩
    simp only at ho hc ⊢
    have hl' : don.length + rest.length ≤ 12 := by simpa using hl
    simp (disch := omega) only [go_sem, seval, encI_len, List.length_append]
    refine aIf.intro (fun h1 => ?_) (fun h1 => ?_) <;> simp (disch := omega) only [go_sem, seval]
    · cases rest with
      | nil => simp at h1; omega
      | cons x r =>
        simp only [List.length_cons] at hl' h1
        simp (disch := omega) only [go_sem, seval, encI_len, List.length_append, List.length_cons]
        refine ⟨rowsOK_I _, by omega, by omega, ?_⟩
        rw [show (encI (don ++ x :: r)).drop ((don.length : Int) + 1).toNat = encI r from by rw [show ((don.length : Int) + 1).toNat = don.length + 1 from by omega, encI_drop]; simp]
        refine ACalls.det (choose_calls Γ k r _ (by omega) (by omega)) ?_
        simp (disch := omega) only [go_sem, seval, encI_len, List.length_append, List.length_cons]
        have hp := choose_pow r k
        have hp2 : 2 ^ r.length ≤ 2 ^ 12 := Nat.pow_le_pow_right (by omega) (by omega)
        have hpo : (out ++ chooseF (x :: r) (k + 1)).length ≤ 2 ^ 12 := by
          rw [hc]
          refine Nat.le_trans (choose_pow _ _) (Nat.pow_le_pow_right (by omega) (by simp; omega))
        have hpx : (out ++ (chooseF r k).map (x :: ·)).length ≤ 4096 := by
          simp only [chooseF, List.length_append, List.length_map] at hpo ⊢; omega
        refine awp_loopL (β := ChT) (chooseF r k) [0, 1, 5, 6, 7, 8] (fun d s => [(0, .sl (encI (don ++ x :: r)) .free), (1, .int .i64 (k + 1 : Nat)), (5, .sl (encII s.out) s.own), (6, .int .i64 don.length), (7, .sl (encII (chooseF r k)) .free), (8, .int .i64 d.length)])
          (fun s => h ++ s.j) (fun d _ s => OwnAt h s.j s.out.length s.own ∧ s.out = out ++ d.map (x :: ·)) ⟨out, own, j⟩ ?_ rfl ⟨ho, by simp⟩ Ty.mixed (by kernel_rfl) ?_ ?_
        · simp (disch := omega) only [go_sem, seval]
        · rintro d t rr ⟨o2, own2, j2⟩ hd ⟨ho2, rfl⟩
          simp only at ho2 ⊢
          have ht : t.length = k := choose_mem r k t (by rw [hd]; simp)
          have hdl : d.length + 1 + rr.length ≤ 4096 := by
            have := congrArg List.length hd
            simp at this; omega
          have hol : out.length + d.length + 1 ≤ 4096 := by
            rw [hd] at hpx; simp at hpx; omega
          simp (disch := omega) only [go_sem, seval, encII_len]
          rw [hd]
          simp (disch := omega) only [go_sem, seval, List.length_append, List.length_cons]
          refine aIf.pos (by omega) ?_
          have e1 : (encI (don ++ x :: r))[don.length]? = some (.int .i64 x) := by simp [encI]
          have e2 : (encII (d ++ t :: rr))[d.length]? = some (.sl (encI t) .free) := by simp [encII]
          simp (disch := omega) only [go_sem, seval, encII_len, encI_len, e1, e2, List.length_append, List.length_cons]
          refine aAp_full (rowsOK_I [x]) (rowsOK_I t) (by simp [encI_len]; omega) (by simp [encI_len]; omega) ?_
          simp (disch := omega) only [go_sem, seval]
          refine aAp_sl (by rw [encII_len]; exact ho2.app _) (rowsOK_II _) (RowsOK.cons rfl (fun c hc => by simp [AV.cells] at hc; subst hc; rfl) (RowsOK.nil 1)) (by simp [encII_len]; omega) (by simp [encII_len]; omega) fun j3 own3 ho3 hg => ?_
          simp (disch := omega) only [go_sem, seval]
          refine roundL_loose ⟨out ++ (d ++ [t]).map (x :: ·), own3, j3⟩ ⟨?_, rfl⟩ ?_ rfl
          · simpa [encII_len, Nat.add_assoc] using ho3
          · simp (disch := omega) only [go_sem, seval, List.length_append, looseL_snoc, List.map_append, List.map_cons, List.map_nil, List.append_assoc]
        · rintro ⟨o2, own2, j2⟩ ⟨ho2, rfl⟩
          simp only at ho2 ⊢
          simp (disch := omega) only [go_sem, seval, encII_len]
          refine AWP.keep [0, 1, 5, 6] (aCode_ok Ty.mixed _ _ _ _ (by kernel_rfl) ?_)
          simp (disch := omega) only [go_sem, seval]
          refine roundS_next ⟨don ++ [x], r, out ++ (chooseF r k).map (x :: ·), own2, j2⟩ (by simp) ⟨by simp, ho2, ?_⟩ ?_ rfl
          · rw [← hc]; simp [chooseF]
          · simp (disch := omega) only [go_sem, seval, List.length_append]
    · refine AWP.keep [5] (aCode_ok Ty.mixed _ _ _ _ (by kernel_rfl) ?_)
      simp (disch := omega) only [go_sem, seval]
      have : chooseF rest (k + 1) = [] := choose_short _ _ (by omega)
      rw [this, List.append_nil] at hc
      rw [hc]

def allUp (l : List Int) (m : Nat) : List (List Int) := (List.range m).flatMap (chooseF l)
def allF (l : List Int) : List (List Int) := allUp l (l.length + 1)
theorem allUp_len (l : List Int) (h : l.length ≤ 12) : ∀ m, (allUp l m).length ≤ m * 4096
  | 0 => by simp [allUp]
  | m + 1 => by
    have h1 := allUp_len l h m
    have h2 := choose_pow l m
    have h3 : 2 ^ l.length ≤ 2 ^ 12 := Nat.pow_le_pow_right (by omega) h
    simp only [allUp, List.range_succ, List.flatMap_append, List.flatMap_cons, List.flatMap_nil, List.append_nil, List.length_append] at h1 ⊢
    omega
structure AlT where
  m : Nat
  own : Abs.Own
  j : AH
set_option maxRecDepth 100000 in
theorem all_calls (Γ : Nat → Option (List AV)) (l : List Int) (h : AH) (hl : l.length ≤ 12) :
    ACalls Tryz.prog Γ 68 [.sl (encI l) .free] h fun v h' => h' = h ∧ v = .sl (encII (allF l)) .free := by
  refine ACalls.dropL ?_
  refine acalls_code (rs := [.tmp 2]) Tryz.func68 rfl rfl rfl rfl Ty.mixed (by kernel_rfl) ?_
  simp (disch := omega) only [go_sem, seval]
  refine awp_loopS (α := AlT) [0, 3, 4] (fun s => [(0, .sl (encI l) .free), (3, .sl (encII (allUp l s.m)) s.own), (4, .int .i64 s.m)])
    (fun s => h ++ s.j) (fun s => s.m ≤ l.length + 1 ∧ OwnAt h s.j (allUp l s.m).length s.own) (fun s => l.length + 1 - s.m) ⟨0, .full, []⟩ ?_ (by simp) ⟨by simp, trivial⟩ Ty.mixed (by kernel_rfl) ?_
  · simp (disch := omega) only [go_sem, seval]
    simp [allUp, encII]
  rintro ⟨m, own, j⟩ ⟨hm, ho⟩
  simp only at hm ho ⊢
  have ha := allUp_len l hl m
  have hp := choose_pow l m
  have h3 : 2 ^ l.length ≤ 2 ^ 12 := Nat.pow_le_pow_right (by omega) hl
  simp (disch := omega) only [go_sem, seval, encI_len]
  refine aIf.intro (fun h1 => ?_) (fun h1 => ?_) <;> simp (disch := omega) only [go_sem, seval]
  · refine ACalls.det (choose_calls Γ m l _ hl (by omega)) ?_
    simp (disch := omega) only [go_sem, seval]
    refine aAp_sl (by rw [encII_len]; exact ho) (rowsOK_II _) (rowsOK_II _) (by simp [encII_len]; omega) (by simp [encII_len]; omega) fun j3 own3 ho3 hg => ?_
    rw [← encII_app, show allUp l m ++ chooseF l m = allUp l (m + 1) from by simp [allUp, List.range_succ]]
    simp (disch := omega) only [go_sem, seval]
    refine roundS_next ⟨m + 1, own3, j3⟩ (by simp only; omega) ⟨by simp only; omega, ?_⟩ ?_ rfl
    · have : (allUp l (m + 1)).length = (allUp l m).length + (chooseF l m).length := by simp [allUp, List.range_succ]
      simp only [this]
      simpa [encII_len] using ho3
    · simp (disch := omega) only [go_sem, seval, List.length_append]
  · refine AWP.keep [3] (aCode_ok Ty.mixed _ _ _ _ (by kernel_rfl) ?_)
    simp (disch := omega) only [go_sem, seval]
    have : m = l.length + 1 := by omega
    subst this
    rfl
end Go.Proofs.YtelehpccfaedjaaGreat

/- The reference's Living, Margin and Dead. No conditions. -/
set_option linter.unusedSimpArgs false
set_option linter.unusedVariables false
namespace Go.Proofs.YtelehpccfaedjaaGreat
open Go Go.Proofs Go.Abs

theorem allF_len {l s : List Int} (h : s ∈ allF l) : s.length ≤ l.length := by
  simp only [allF, allUp, List.mem_flatMap, List.mem_range] at h
  obtain ⟨m, hm, hs⟩ := h
  have := choose_mem l m s hs
  omega
theorem encII_get (a b : List (List Int)) (s : List Int) : (encII (a ++ s :: b))[a.length]? = some (.sl (encI s) .free) := by simp [encII]
def encW (r : List Int × Bool × Int) : AV := .tuple [.sl (encI r.1) .free, .bool r.2.1, .int .i64 r.2.2]
def firstF (all : List (List Int)) (p : List Int → Bool) : List Int × Bool × Int := match all.find? p with
  | some s => (s, true, 0)
  | none => ([], false, 0)
def err51F (g : Gt) (alive : List Int) : Int := if errF g = 0 then (if ascF (-1) alive then 0 else 1) else errF g
theorem errF_facts {g : Gt} (h : errF g = 0) : checkF g = 0 ∧ allLeaves g ≤ 256 ∧ (pplF g).length ≤ 12 := by
  unfold errF at h
  split at h
  · rename_i hc
    split at h
    · omega
    · exact ⟨hc, check_leaves hc, by omega⟩
  · rename_i hc; exact absurd h hc
theorem err51_facts {g : Gt} {alive : List Int} (h : err51F g alive = 0) : errF g = 0 ∧ ascF (-1) alive = true := by
  unfold err51F at h
  split at h
  · rename_i hc
    split at h
    · rename_i ha; exact ⟨hc, ha⟩
    · omega
  · rename_i hc; exact absurd h hc
theorem bothF_len (a b : List Int) : (bothF a b).length ≤ a.length := List.length_filter_le _ _
theorem wtF_len (a b : List Int) : (wtF a b).length ≤ a.length := List.length_filter_le _ _
def livR (g : Gt) (alive : List Int) : List Int × Bool × Int :=
  if err51F g alive = 0 then firstF (allF (bothF (pplF g) alive)) (permF g) else ([], false, err51F g alive)
def marR (g : Gt) (alive : List Int) : List Int × Bool × Int :=
  if err51F g alive = 0 then (if permF g alive then firstF (allF (bothF (pplF g) alive)) (fun s => !permF g (wtF (bothF (pplF g) alive) s)) else ([], false, 0)) else ([], false, err51F g alive)
def deaR (g : Gt) (alive : List Int) : List Int × Bool × Int :=
  if err51F g alive = 0 then (if permF g alive then ([], false, 0) else firstF (allF (wtF (pplF g) alive)) (fun s => !permF g (wtF (pplF g) s))) else ([], false, err51F g alive)
end Go.Proofs.YtelehpccfaedjaaGreat
