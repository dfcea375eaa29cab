/- Texts joined: FrM, UnD. No conditions. -/
import Derived.Test.YtjdhgaflenhljaaGreatDoorMrAAD
import Derived.Test.YtjdhgaflenhljaaGreatDoorMrF
import Derived.Test.YtjdhgaflenhljaaGreatDoorMrHC
/- Maps as association lists: generic. No conditions. -/
set_option linter.unusedSimpArgs false
set_option linter.unusedVariables false
namespace Go.Proofs.YtjdhgaflenhljaaGreatDoor
open Go Go.Proofs Go.Abs

section
variable {κ β : Type} [DecidableEq κ]
def mUpd (k : κ) (y : β) : List (κ × β) → List (κ × β)
  | [] => [(k, y)]
  | e :: r => if e.1 = k then (k, y) :: r else e :: mUpd k y r
def mGet (k : κ) : List (κ × β) → Option β
  | [] => none
  | e :: r => if e.1 = k then some e.2 else mGet k r
def mEnts (kv : κ → AV) (ev : β → AV) : Nat → List (κ × β) → List (Nat × AV × AV)
  | _, [] => []
  | i, e :: r => (i, kv e.1, ev e.2) :: mEnts kv ev (i + 1) r
def mIdx (k : κ) : List (κ × β) → Option Nat
  | [] => none
  | e :: r => if e.1 = k then some 0 else (mIdx k r).map (· + 1)
variable (kv : κ → AV) (ev : β → AV)
omit [DecidableEq κ] in
theorem mEnts_get : ∀ (m : List (κ × β)) (i j : Nat), (mEnts kv ev i m)[j]? = (m[j]?).map fun e => (i + j, kv e.1, ev e.2)
  | [], i, j => by simp [mEnts]
  | e :: r, i, 0 => by simp [mEnts]
  | e :: r, i, j + 1 => by
    rw [mEnts, List.getElem?_cons_succ, List.getElem?_cons_succ, mEnts_get r (i + 1) j]
    congr 1
    funext x
    rw [show i + 1 + j = i + (j + 1) from by omega]
omit [DecidableEq κ] in
theorem mEnts_len (m : List (κ × β)) (i : Nat) : (mEnts kv ev i m).length = m.length := by
  induction m generalizing i with
  | nil => rfl
  | cons e r ih => simp [mEnts, ih]
theorem mIdx_get (k : κ) : ∀ m : List (κ × β), (mIdx k m = none ∧ mGet k m = none) ∨ ∃ j y, mIdx k m = some j ∧ m[j]? = some (k, y) ∧ mGet k m = some y
  | [] => .inl ⟨rfl, rfl⟩
  | e :: r => by
    by_cases h : e.1 = k
    · exact .inr ⟨0, e.2, by simp [mIdx, h], by simp [← h], by simp [mGet, h]⟩
    · rcases mIdx_get k r with ⟨h1, h2⟩ | ⟨j, y, h1, h2, h3⟩
      · exact .inl ⟨by simp [mIdx, h, h1], by simp [mGet, h, h2]⟩
      · exact .inr ⟨j + 1, y, by simp [mIdx, h, h1], by simpa using h2, by simp [mGet, h, h3]⟩
def mLk (ok : Bool) (z : AV) : Option β → AV
  | some e => if ok then .tuple [ev e, .bool true] else ev e
  | none => if ok then .tuple [z, .bool false] else z
theorem mLook {F : Option (Option Nat)} (ok : Bool) (z : AV) (k : κ) (m : List (κ × β)) (hF : F = some (mIdx k m)) (K : AV → Prop) : aLkF ok z F (mEnts kv ev 0 m) K = K (mLk ev ok z (mGet k m)) := by
  rw [hF]
  rcases mIdx_get k m with ⟨h1, h2⟩ | ⟨j, y, h1, h2, h3⟩
  · rw [h1, h2]; rfl
  · rw [h1, h3]
    have hg := mEnts_get kv ev m 0 j
    rw [h2] at hg
    simp [aLkF, hg, mLk]
theorem mUpd_len (k : κ) (y : β) : ∀ m : List (κ × β), (mIdx k m = none ∧ mUpd k y m = m ++ [(k, y)]) ∨ ∃ j, mIdx k m = some j ∧ mUpd k y m = m.set j (k, y)
  | [] => .inl ⟨rfl, rfl⟩
  | e :: r => by
    by_cases h : e.1 = k
    · exact .inr ⟨0, by simp [mIdx, h], by simp [mUpd, h]⟩
    · rcases mUpd_len k y r with ⟨h1, h2⟩ | ⟨j, h1, h2⟩
      · exact .inl ⟨by simp [mIdx, h, h1], by simp [mUpd, h, h2]⟩
      · exact .inr ⟨j + 1, by simp [mIdx, h, h1], by simp [mUpd, h, h2]⟩
theorem mPut {F : Option (Option Nat)} (k : κ) (y : β) (m : List (κ × β)) (hF : F = some (mIdx k m)) : F.bind (putEnt (mEnts kv ev 0 m) m.length (kv k) (ev y)) = some (.map (mEnts kv ev 0 (mUpd k y m)) (mUpd k y m).length) := by
  rw [hF]
  rcases mUpd_len k y m with ⟨h1, h2⟩ | ⟨j, h1, h2⟩
  · rw [h1, h2]
    simp only [Option.bind_some, putEnt]
    congr 2
    · apply List.ext_getElem?
      intro i
      rw [mEnts_get, List.getElem?_append, List.getElem?_append, mEnts_len]
      split
      · rw [mEnts_get]
      · rename_i hi
        cases hq : i - m.length with
        | zero => rw [show i = m.length by omega]; simp
        | succ n => simp
    · simp
  · rw [h1, h2]
    rcases mIdx_get k m with ⟨g1, _⟩ | ⟨j', y', g1, g2, _⟩
    · rw [g1] at h1; cases h1
    · rw [g1] at h1; cases h1
      simp only [Option.bind_some, putEnt, mEnts_get, g2, Option.map_some, List.length_set]
      congr 2
      apply List.ext_getElem?
      intro i
      rw [mEnts_get, List.getElem?_set, List.getElem?_set, mEnts_get, mEnts_len]
      have hj := (List.getElem?_eq_some_iff.1 g2).1
      split
      · rename_i h; subst h
        simp [hj]
      · rfl
end
theorem mFind_int {β : Type} (ev : β → AV) (p : Int) : ∀ (m : List (Int × β)) (i : Nat), aFind (.int .i64 p) (mEnts (fun n => .int .i64 n) ev i m) = some (mIdx p m)
  | [], _ => rfl
  | e :: r, i => by
    rw [mEnts, aFind, mFind_int ev p r (i + 1), mIdx]
    by_cases h : e.1 = p
    · simp [h]
    · simp [h, Ne.symm h]
end Go.Proofs.YtjdhgaflenhljaaGreatDoor

/- The modes' judges; check, Needed, Decide. No conditions. -/
set_option linter.unusedSimpArgs false
set_option linter.unusedVariables false
namespace Go.Proofs.YtjdhgaflenhljaaGreatDoor
open Go Go.Proofs Go.Abs

def jdgM : List (Int × AV) := [(1, .func 34 [] []), (2, .func 35 [] []), (3, .func 33 [] []), (4, .func 33 [] [])]
def jdgO : AObj := .map (mEnts (fun n => .int .i64 n) id 0 jdgM) 4
set_option maxRecDepth 100000 in
theorem judges_calls (Γ : Nat → Option (List AV)) (h : AH) : ACalls Tryz.prog Γ 16 [] h fun w h' => h' = h ++ [jdgO] ∧ w = .map (some h.length) := by
  refine acalls_code (rs := [.tmp 0]) Tryz.func16 rfl rfl rfl rfl Ty.mixed (by kernel_rfl) ?_
  simp (disch := omega) only [go_sem, seval]
  have st : ∀ (k : Int) (V : AV) (m : List (Int × AV)), (aFind (.int .i64 k) (mEnts (fun n => .int .i64 n) id 0 m)).bind (putEnt (mEnts (fun n => .int .i64 n) id 0 m) m.length (.int .i64 k) V) = some (.map (mEnts (fun n => .int .i64 n) id 0 (mUpd k V m)) (mUpd k V m).length) := fun k V m => mPut (fun n => .int .i64 n) id k V m (mFind_int id k m 0)
  refine (congrArg (fun z => aMuR z _ _ _) (st 1 _ [])).mpr ?_
  simp (disch := omega) only [go_sem, seval]
  refine (congrArg (fun z => aMuR z _ _ _) (st 2 _ _)).mpr ?_
  simp (disch := omega) only [go_sem, seval]
  refine (congrArg (fun z => aMuR z _ _ _) (st 3 _ _)).mpr ?_
  simp (disch := omega) only [go_sem, seval]
  refine (congrArg (fun z => aMuR z _ _ _) (st 4 _ _)).mpr ?_
  simp (disch := omega) only [go_sem, seval]
  rfl
theorem j1_calls (Γ : Nat → Option (List AV)) (l : List Vs) (old : Bool) (h : AH) :
    ACalls Tryz.prog Γ 33 [.sl (l.map encV) .free, .bool old] h fun v h' => h' = h ∧ v = .sl (l.map encV) .free := by
  refine ACalls.drop ?_
  refine acalls_code (rs := [.tmp 4]) Tryz.func33 rfl rfl rfl rfl Ty.mixed (by kernel_rfl) ?_
  simp (disch := omega) only [go_sem, seval]
theorem j2_calls (Γ : Nat → Option (List AV)) (l : List Vs) (old : Bool) (h : AH) (hl : 1 ≤ l.length) :
    ACalls Tryz.prog Γ 34 [.sl (l.map encV) .free, .bool old] h fun v h' => h' = h ∧ v = .sl ((if old then l.take 1 else []).map encV) .free := by
  refine ACalls.dropL ?_
  refine acalls_code (rs := [.tmp 4]) Tryz.func34 rfl rfl rfl rfl Ty.mixed (by kernel_rfl) ?_
  cases old <;> simp (disch := omega) only [go_sem, seval]
  refine ⟨rowsOK_V l, by omega, ?_⟩
  rw [← List.map_take, loose_Vs]
  exact ⟨of_eq_true (rb_Vs _ _), rfl⟩
theorem j3_calls (Γ : Nat → Option (List AV)) (l : List Vs) (old : Bool) (h : AH) (hl : 1 ≤ l.length) (hl2 : l.length ≤ 9223372036854775807) :
    ACalls Tryz.prog Γ 35 [.sl (l.map encV) .free, .bool old] h fun v h' => h' = h ∧ v = .sl ((l.drop (l.length - 1)).map encV) .free := by
  refine ACalls.dropL ?_
  refine acalls_code (rs := [.tmp 4]) Tryz.func35 rfl rfl rfl rfl Ty.mixed (by kernel_rfl) ?_
  simp (disch := omega) only [go_sem, seval, List.length_map]
  refine ⟨rowsOK_V l, by omega, by omega, ?_⟩
  have : ((l.length : Int) - 1).toNat = l.length - 1 := by omega
  rw [this, ← List.map_drop, loose_Vs]
  exact ⟨of_eq_true (rb_Vs _ _), rfl⟩
def errN (mode : Int) (n : Nat) : Int := if 1 ≤ mode ∧ mode ≤ 4 then (if 256 < n then 1 else 0) else 270
def encBl (l : List Bool) : List AV := l.map fun b => .bool b
theorem encBl_len (l : List Bool) : (encBl l).length = l.length := by simp [encBl]
theorem jdg_get (k : Int) : mGet k jdgM = if k = 1 then some (.func 34 [] []) else if k = 2 then some (.func 35 [] []) else if k = 3 ∨ k = 4 then some (.func 33 [] []) else none := by
  simp only [jdgM, mGet]
  by_cases h1 : k = 1
  · simp [h1]
  by_cases h2 : k = 2
  · simp [h2]
  by_cases h3 : k = 3
  · simp [h3]
  by_cases h4 : k = 4
  · simp [h4]
  simp [h1, h2, h3, h4, Ne.symm h1, Ne.symm h2, Ne.symm h3, Ne.symm h4]
set_option maxRecDepth 100000 in
theorem ncheck_calls (Γ : Nat → Option (List AV)) (mode : Int) (l : List Bool) (h : AH) (hl : l.length ≤ 9223372036854775807) :
    ACalls Tryz.prog Γ 22 [.int .i64 mode, .sl (encBl l) .free] h fun v h' => h' = h ∧ v = .int .i64 (errN mode l.length) := by
  refine ACalls.drop ?_
  refine acalls_code (rs := [.tmp 4]) Tryz.func22 rfl rfl rfl rfl Ty.mixed (by kernel_rfl) ?_
  simp (disch := omega) only [go_sem, seval]
  refine ACalls.detH (judges_calls Γ _) ?_
  have gm : (h ++ [jdgO])[h.length]? = some (.map (mEnts (fun n => .int .i64 n) id 0 jdgM) 4) := by simp [jdgO]
  simp (disch := omega) only [go_sem, seval, gm]
  rw [mLook _ _ _ _ mode jdgM (mFind_int _ mode jdgM 0), jdg_get]
  by_cases hm : 1 ≤ mode ∧ mode ≤ 4
  · have hd : errN mode l.length = if 256 < l.length then 1 else 0 := by rw [errN, if_pos hm]
    obtain ⟨F, hF⟩ : ∃ F, (if mode = 1 then some (AV.func 34 [] []) else if mode = 2 then some (.func 35 [] []) else if mode = 3 ∨ mode = 4 then some (.func 33 [] []) else none) = some F := by
      split
      · exact ⟨_, rfl⟩
      split
      · exact ⟨_, rfl⟩
      rw [if_pos (by omega)]; exact ⟨_, rfl⟩
    rw [hF]
    simp (disch := omega) only [go_sem, seval, mLk, encBl_len]
    refine aIf.intro (fun h1 => ?_) (fun h1 => ?_) <;> simp (disch := omega) only [go_sem, seval]
    · rw [hd, if_pos (by omega)]
    · rw [hd, if_neg (by omega)]
  · have hd : errN mode l.length = 270 := by rw [errN, if_neg hm]
    rw [if_neg (by omega), if_neg (by omega), if_neg (by omega)]
    simp (disch := omega) only [go_sem, seval, mLk]
    rw [hd]
end Go.Proofs.YtjdhgaflenhljaaGreatDoor
