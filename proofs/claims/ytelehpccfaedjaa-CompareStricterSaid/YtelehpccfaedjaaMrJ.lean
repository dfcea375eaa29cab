/- Texts joined: RefD, RefE, RefF. No conditions. -/
import Derived.Test.YtelehpccfaedjaaMrI
/- The reference's lists of people: without others, in both; equal lists; few. No conditions. -/
set_option linter.unusedSimpArgs false
set_option linter.unusedVariables false
namespace Go.Proofs.Ytelehpccfaedjaa
open Go Go.Proofs Go.Abs

def wtF (l out : List Int) : List Int := l.filter fun x => !decide (x ∈ out)
def bothF (a b : List Int) : List Int := a.filter fun x => decide (x ∈ b)
structure FlS where
  l : List Int
  own : Abs.Own
  j : AH
/-! ### Few -/
def few22F (g : Gt) : Bool := decide (leaves g 300 ≤ 60) || (decide (250 ≤ leaves g 300) && decide (leaves g 300 ≤ 300))
set_option maxRecDepth 100000 in
theorem few22_calls (Γ : Nat → Option (List AV)) (g : Gt) (h : AH) (hs : Sh g) : ACalls Try.prog Γ 90 [encG g] h fun v h' => h' = h ∧ v = .bool (few22F g) := by
  refine ACalls.drop ?_
  refine acalls_code (rs := [.tmp 2]) Try.func90 rfl rfl rfl rfl Ty.mixed (by kernel_rfl) ?_
  simp (disch := omega) only [go_sem, seval]
  refine ACalls.det (leaves_calls Γ g 300 _ (by omega) (by omega)) ?_
  simp (disch := omega) only [go_sem, seval]
  refine aIf.intro (fun h1 => ?_) (fun h1 => ?_) <;> simp (disch := omega) only [go_sem, seval]
  · simp [few22F, h1]
  refine aIf.intro (fun h2 => ?_) (fun h2 => ?_) <;> simp (disch := omega) only [go_sem, seval]
  · simp [few22F, h1, h2]
  · simp [few22F, h1, h2]
def few24F (g : Gt) : Bool := few22F g && (decide (errF g ≠ 0) || (smallF g && decide ((pplF g).length ≤ 7)))
theorem small_leaves {g : Gt} (h : smallF g = true) : allLeaves g ≤ 60 := by
  simp [smallF] at h
  have := leaves_all g 60 (by omega)
  omega
end Go.Proofs.Ytelehpccfaedjaa

/- All sets of some people. No conditions. -/
set_option linter.unusedSimpArgs false
set_option linter.unusedVariables false
namespace Go.Proofs.Ytelehpccfaedjaa
open Go Go.Proofs Go.Abs

def encII (l : List (List Int)) : List AV := l.map fun s => .sl (encI s) .free
theorem encII_app (a b : List (List Int)) : encII (a ++ b) = encII a ++ encII b := by simp [encII]
theorem encII_len (l : List (List Int)) : (encII l).length = l.length := by simp [encII]
theorem encII_snoc (a : List (List Int)) (s : List Int) : encII a ++ [.sl (encI s) .free] = encII (a ++ [s]) := by simp [encII]
theorem loose_II (l : List (List Int)) : looseL (encII l) = encII l := looseL_maps _ (fun s => by rw [loose, loose_I]) l
theorem rb_II (n : Nat) (l : List (List Int)) : RB n (.sl (encII l) .free) = True := eq_true (.sl' fun r hr => by
  obtain ⟨s, _, rfl⟩ := List.mem_map.1 hr
  exact of_eq_true (rb_I n s))
theorem rowsOK_II (l : List (List Int)) : RowsOK 1 (encII l) := RowsOK.map (f := fun s => AV.sl (encI s) .free) (fun s => ⟨rfl, fun c hc => by simp [AV.cells] at hc; subst hc; rfl⟩) l
attribute [go_sem] loose_II rb_II
theorem looseL_snoc (l : List (List Int)) (x : Int) (t : List Int) (o : Abs.Own) : looseL (encII l ++ [.sl (.int .i64 x :: encI t) o]) = encII (l ++ [x :: t]) := by
  rw [looseL_map, List.map_append, ← looseL_map, loose_II]
  simp only [List.map_cons, List.map_nil, loose, looseL, loose_I]
  simp [encII, encI]
def chooseF : List Int → Nat → List (List Int)
  | _, 0 => [[]]
  | [], _ + 1 => []
  | x :: r, k + 1 => (chooseF r k).map (x :: ·) ++ chooseF r (k + 1)
theorem choose_short : ∀ (l : List Int) (k : Nat), l.length < k → chooseF l k = []
  | _, 0, h => by omega
  | [], k + 1, _ => by simp [chooseF]
  | x :: r, k + 1, h => by simp [chooseF, choose_short r k (by simp at h; omega), choose_short r (k + 1) (by simp at h; omega)]
theorem choose_pow : ∀ (l : List Int) (k : Nat), (chooseF l k).length ≤ 2 ^ l.length
  | l, 0 => by
    have : 1 ≤ 2 ^ l.length := Nat.one_le_two_pow
    cases l <;> simp [chooseF] <;> omega
  | [], k + 1 => by simp [chooseF]
  | x :: r, k + 1 => by
    have h1 := choose_pow r k
    have h2 := choose_pow r (k + 1)
    simp only [chooseF, List.length_append, List.length_map, List.length_cons, Nat.pow_succ]; omega
theorem choose_mem : ∀ (l : List Int) (k : Nat) (s : List Int), s ∈ chooseF l k → s.length = k
  | l, 0, s, h => by cases l <;> simp [chooseF] at h <;> simp [h]
  | [], k + 1, s, h => by simp [chooseF] at h
  | x :: r, k + 1, s, h => by
    simp only [chooseF, List.mem_append, List.mem_map] at h
    rcases h with ⟨t, ht, rfl⟩ | h
    · simp [choose_mem r k t ht]
    · exact choose_mem r (k + 1) s h
structure ChS where
  don : List Int
  rest : List Int
  out : List (List Int)
  own : Abs.Own
  j : AH
structure ChT where
  out : List (List Int)
  own : Abs.Own
  j : AH
def allUp (l : List Int) (m : Nat) : List (List Int) := (List.range m).flatMap (chooseF l)
def allF (l : List Int) : List (List Int) := allUp l (l.length + 1)
theorem allUp_len (l : List Int) (h : l.length ≤ 12) : ∀ m, (allUp l m).length ≤ m * 4096
  | 0 => by simp [allUp]
  | m + 1 => by
    have h1 := allUp_len l h m
    have h2 := choose_pow l m
    have h3 : 2 ^ l.length ≤ 2 ^ 12 := Nat.pow_le_pow_right (by omega) h
    simp only [allUp, List.range_succ, List.flatMap_append, List.flatMap_cons, List.flatMap_nil, List.append_nil, List.length_append] at h1 ⊢
    omega
structure AlT where
  m : Nat
  own : Abs.Own
  j : AH
end Go.Proofs.Ytelehpccfaedjaa

/- The reference's Living, Margin and Dead. No conditions. -/
set_option linter.unusedSimpArgs false
set_option linter.unusedVariables false
namespace Go.Proofs.Ytelehpccfaedjaa
open Go Go.Proofs Go.Abs

theorem allF_len {l s : List Int} (h : s ∈ allF l) : s.length ≤ l.length := by
  simp only [allF, allUp, List.mem_flatMap, List.mem_range] at h
  obtain ⟨m, hm, hs⟩ := h
  have := choose_mem l m s hs
  omega
theorem encII_get (a b : List (List Int)) (s : List Int) : (encII (a ++ s :: b))[a.length]? = some (.sl (encI s) .free) := by simp [encII]
def encW (r : List Int × Bool × Int) : AV := .tuple [.sl (encI r.1) .free, .bool r.2.1, .int .i64 r.2.2]
def firstF (all : List (List Int)) (p : List Int → Bool) : List Int × Bool × Int := match all.find? p with
  | some s => (s, true, 0)
  | none => ([], false, 0)
def err51F (g : Gt) (alive : List Int) : Int := if errF g = 0 then (if ascF (-1) alive then 0 else 1) else errF g
theorem errF_facts {g : Gt} (h : errF g = 0) : checkF g = 0 ∧ allLeaves g ≤ 256 ∧ (pplF g).length ≤ 12 := by
  unfold errF at h
  split at h
  · rename_i hc
    split at h
    · omega
    · exact ⟨hc, check_leaves hc, by omega⟩
  · rename_i hc; exact absurd h hc
theorem err51_facts {g : Gt} {alive : List Int} (h : err51F g alive = 0) : errF g = 0 ∧ ascF (-1) alive = true := by
  unfold err51F at h
  split at h
  · rename_i hc
    split at h
    · rename_i ha; exact ⟨hc, ha⟩
    · omega
  · rename_i hc; exact absurd h hc
theorem bothF_len (a b : List Int) : (bothF a b).length ≤ a.length := List.length_filter_le _ _
theorem wtF_len (a b : List Int) : (wtF a b).length ≤ a.length := List.length_filter_le _ _
def livR (g : Gt) (alive : List Int) : List Int × Bool × Int :=
  if err51F g alive = 0 then firstF (allF (bothF (pplF g) alive)) (permF g) else ([], false, err51F g alive)
def marR (g : Gt) (alive : List Int) : List Int × Bool × Int :=
  if err51F g alive = 0 then (if permF g alive then firstF (allF (bothF (pplF g) alive)) (fun s => !permF g (wtF (bothF (pplF g) alive) s)) else ([], false, 0)) else ([], false, err51F g alive)
def deaR (g : Gt) (alive : List Int) : List Int × Bool × Int :=
  if err51F g alive = 0 then (if permF g alive then ([], false, 0) else firstF (allF (wtF (pplF g) alive)) (fun s => !permF g (wtF (pplF g) s))) else ([], false, err51F g alive)
end Go.Proofs.Ytelehpccfaedjaa
