/- Texts joined: FrM, FrR, FrS, FrT. No conditions. -/
import Derived.Test.YtplllkjobpjaoaaGreatDoorMrAAD
import Derived.Test.YtplllkjobpjaoaaGreatDoorMrF
import Derived.Test.YtplllkjobpjaoaaGreatDoorMrFC
/- Maps as association lists: generic. No conditions. -/
set_option linter.unusedSimpArgs false
set_option linter.unusedVariables false
namespace Go.Proofs.YtplllkjobpjaoaaGreatDoor
open Go Go.Proofs Go.Abs

section
variable {κ β : Type} [DecidableEq κ]
def mUpd (k : κ) (y : β) : List (κ × β) → List (κ × β)
  | [] => [(k, y)]
  | e :: r => if e.1 = k then (k, y) :: r else e :: mUpd k y r
def mGet (k : κ) : List (κ × β) → Option β
  | [] => none
  | e :: r => if e.1 = k then some e.2 else mGet k r
def mEnts (kv : κ → AV) (ev : β → AV) : Nat → List (κ × β) → List (Nat × AV × AV)
  | _, [] => []
  | i, e :: r => (i, kv e.1, ev e.2) :: mEnts kv ev (i + 1) r
def mIdx (k : κ) : List (κ × β) → Option Nat
  | [] => none
  | e :: r => if e.1 = k then some 0 else (mIdx k r).map (· + 1)
variable (kv : κ → AV) (ev : β → AV)
omit [DecidableEq κ] in
theorem mEnts_get : ∀ (m : List (κ × β)) (i j : Nat), (mEnts kv ev i m)[j]? = (m[j]?).map fun e => (i + j, kv e.1, ev e.2)
  | [], i, j => by simp [mEnts]
  | e :: r, i, 0 => by simp [mEnts]
  | e :: r, i, j + 1 => by
    rw [mEnts, List.getElem?_cons_succ, List.getElem?_cons_succ, mEnts_get r (i + 1) j]
    congr 1
    funext x
    rw [show i + 1 + j = i + (j + 1) from by omega]
omit [DecidableEq κ] in
theorem mEnts_len (m : List (κ × β)) (i : Nat) : (mEnts kv ev i m).length = m.length := by
  induction m generalizing i with
  | nil => rfl
  | cons e r ih => simp [mEnts, ih]
theorem mIdx_get (k : κ) : ∀ m : List (κ × β), (mIdx k m = none ∧ mGet k m = none) ∨ ∃ j y, mIdx k m = some j ∧ m[j]? = some (k, y) ∧ mGet k m = some y
  | [] => .inl ⟨rfl, rfl⟩
  | e :: r => by
    by_cases h : e.1 = k
    · exact .inr ⟨0, e.2, by simp [mIdx, h], by simp [← h], by simp [mGet, h]⟩
    · rcases mIdx_get k r with ⟨h1, h2⟩ | ⟨j, y, h1, h2, h3⟩
      · exact .inl ⟨by simp [mIdx, h, h1], by simp [mGet, h, h2]⟩
      · exact .inr ⟨j + 1, y, by simp [mIdx, h, h1], by simpa using h2, by simp [mGet, h, h3]⟩
def mLk (ok : Bool) (z : AV) : Option β → AV
  | some e => if ok then .tuple [ev e, .bool true] else ev e
  | none => if ok then .tuple [z, .bool false] else z
theorem mLook {F : Option (Option Nat)} (ok : Bool) (z : AV) (k : κ) (m : List (κ × β)) (hF : F = some (mIdx k m)) (K : AV → Prop) : aLkF ok z F (mEnts kv ev 0 m) K = K (mLk ev ok z (mGet k m)) := by
  rw [hF]
  rcases mIdx_get k m with ⟨h1, h2⟩ | ⟨j, y, h1, h2, h3⟩
  · rw [h1, h2]; rfl
  · rw [h1, h3]
    have hg := mEnts_get kv ev m 0 j
    rw [h2] at hg
    simp [aLkF, hg, mLk]
theorem mUpd_len (k : κ) (y : β) : ∀ m : List (κ × β), (mIdx k m = none ∧ mUpd k y m = m ++ [(k, y)]) ∨ ∃ j, mIdx k m = some j ∧ mUpd k y m = m.set j (k, y)
  | [] => .inl ⟨rfl, rfl⟩
  | e :: r => by
    by_cases h : e.1 = k
    · exact .inr ⟨0, by simp [mIdx, h], by simp [mUpd, h]⟩
    · rcases mUpd_len k y r with ⟨h1, h2⟩ | ⟨j, h1, h2⟩
      · exact .inl ⟨by simp [mIdx, h, h1], by simp [mUpd, h, h2]⟩
      · exact .inr ⟨j + 1, by simp [mIdx, h, h1], by simp [mUpd, h, h2]⟩
theorem mPut {F : Option (Option Nat)} (k : κ) (y : β) (m : List (κ × β)) (hF : F = some (mIdx k m)) : F.bind (putEnt (mEnts kv ev 0 m) m.length (kv k) (ev y)) = some (.map (mEnts kv ev 0 (mUpd k y m)) (mUpd k y m).length) := by
  rw [hF]
  rcases mUpd_len k y m with ⟨h1, h2⟩ | ⟨j, h1, h2⟩
  · rw [h1, h2]
    simp only [Option.bind_some, putEnt]
    congr 2
    · apply List.ext_getElem?
      intro i
      rw [mEnts_get, List.getElem?_append, List.getElem?_append, mEnts_len]
      split
      · rw [mEnts_get]
      · rename_i hi
        cases hq : i - m.length with
        | zero => rw [show i = m.length by omega]; simp
        | succ n => simp
    · simp
  · rw [h1, h2]
    rcases mIdx_get k m with ⟨g1, _⟩ | ⟨j', y', g1, g2, _⟩
    · rw [g1] at h1; cases h1
    · rw [g1] at h1; cases h1
      simp only [Option.bind_some, putEnt, mEnts_get, g2, Option.map_some, List.length_set]
      congr 2
      apply List.ext_getElem?
      intro i
      rw [mEnts_get, List.getElem?_set, List.getElem?_set, mEnts_get, mEnts_len]
      have hj := (List.getElem?_eq_some_iff.1 g2).1
      split
      · rename_i h; subst h
        simp [hj]
      · rfl
end
theorem mFind_int {β : Type} (ev : β → AV) (p : Int) : ∀ (m : List (Int × β)) (i : Nat), aFind (.int .i64 p) (mEnts (fun n => .int .i64 n) ev i m) = some (mIdx p m)
  | [], _ => rfl
  | e :: r, i => by
    rw [mEnts, aFind, mFind_int ev p r (i + 1), mIdx]
    by_cases h : e.1 = p
    · simp [h]
    · simp [h, Ne.symm h]
end Go.Proofs.YtplllkjobpjaoaaGreatDoor

/- The program's kinds, gate. No conditions. -/
set_option linter.unusedSimpArgs false
set_option linter.unusedVariables false
namespace Go.Proofs.YtplllkjobpjaoaaGreatDoor
open Go Go.Proofs Go.Abs

def cmC (v : Int) (hs : List (List Hd)) : List AV := [.int .i64 v, .sl (encHl hs) .free]
def encCm (v : Int) (hs : List (List Hd)) : AV := .agg (cmC v hs)
def repV (w : Hd → Int) (l : List Hd) : List AV := l.flatMap fun y => List.replicate (w y).toNat (Fr.oneV y.person)
theorem encG_leaf (n : Int) : Fr.encG (leafG n) = .agg [.int .i64 n, .int .i64 0, .sl [] .free] := by rw [leafG, Fr.encG_mk]; rfl
theorem loose_rep (w : Hd → Int) (l : List Hd) : looseL (repV w l) = (repG w l).map Fr.encG := by
  induction l with
  | nil => rfl
  | cons y r ih =>
    rw [repV, repG] at ih ⊢
    rw [List.flatMap_cons, List.flatMap_cons, List.map_append, looseL_app, ih]
    congr 1
    rw [looseL_map, List.map_replicate, List.map_replicate, encG_leaf]
    congr 1
theorem repV_len (w : Hd → Int) (l : List Hd) : (repV w l).length = (repG w l).length := by
  rw [repV, repG, List.length_flatMap, List.length_flatMap]
  congr 1
  exact List.map_congr_left fun y _ => by rw [List.length_replicate, List.length_replicate]
theorem rowsOK_one (l : List AV) (h : ∀ a ∈ l, ∃ n, a = Fr.oneV n) : RowsOK 3 l := fun r hr => by
  obtain ⟨n, rfl⟩ := h r hr
  refine ⟨rfl, fun c hc => ?_⟩
  simp only [Fr.oneV, AV.cells, List.mem_cons, List.not_mem_nil, or_false] at hc
  rcases hc with rfl | rfl | rfl <;> rfl
theorem repV_mem {w : Hd → Int} {l : List Hd} {a : AV} (h : a ∈ repV w l) : ∃ n, a = Fr.oneV n := by
  obtain ⟨y, _, hy⟩ := List.mem_flatMap.1 h
  exact ⟨_, List.eq_of_mem_replicate hy⟩
theorem rep_unit {n : Nat} {don r : List Unit} {x : Unit} (h : List.replicate n () = don ++ x :: r) : don.length + 1 + r.length = n := by
  have := congrArg List.length h
  simp at this; omega
set_option maxHeartbeats 1600000 in
set_option maxRecDepth 100000 in
theorem lvs_calls (Γ : Nat → Option (List AV)) (l : List Hd) (wv : FuncId) (w : Hd → Int) (h : AH) (hl : l.length ≤ 100) (hw : ∀ y ∈ l, 0 ≤ w y ∧ w y ≤ 64) (hc : ∀ y ∈ l, ∀ h, ACalls Tryz.prog Γ wv [encHd y] h fun v h' => h' = h ∧ v = .int .i64 (w y)) :
    ACalls Tryz.prog Γ 51 [.sl (l.map encHd) .free, .func wv [] []] h fun v h' => h' = h ∧ v = .sl ((repG w l).map Fr.encG) .free := by
  refine ACalls.dropL ?_
  refine acalls_code (rs := [.tmp 4]) Tryz.func51 rfl rfl rfl rfl Ty.mixed (by kernel_rfl) ?_
  simp (disch := omega) only [go_sem, seval, List.length_map]
  have hrl : ∀ dn r, l = dn ++ r → (repV w dn).length ≤ 64 * dn.length := fun dn r e => by
    rw [repV_len]; exact rep_len w (fun _ => trivial) dn fun y hy => (hw y (by rw [e]; simp [hy])).2
  refine awp_loopL (β := Abs.Own × AH) l [1, 4, 7, 8, 9] (fun dn b => [(1, .func wv [] []), (4, .sl (repV w dn) b.1), (7, .sl (l.map encHd) .free), (8, .int .i64 l.length), (9, .int .i64 dn.length)]) (fun b => h ++ b.2) (fun dn _ b => OwnAt h b.2 (repV w dn).length b.1) (.full, []) ?_ (by simp) trivial Ty.mixed (by kernel_rfl) ?_ ?_
  · simp (disch := omega) only [go_sem, seval, List.length_nil]
    rfl
  · rintro dn y r ⟨own, X⟩ hdn hown
    simp only at hown ⊢
    have hlen : l.length = dn.length + 1 + r.length := by rw [hdn]; simp; omega
    have e1 : (l.map encHd)[dn.length]? = some (encHd y) := by rw [hdn]; exact rowMid ..
    have hb := hrl dn _ hdn
    have hwy := hw y (by rw [hdn]; simp)
    have c1 := hc y (by rw [hdn]; simp)
    rw [encHd] at e1 c1
    simp (disch := omega) only [go_sem, seval, List.length_map]
    refine aIf.pos (by omega) ?_
    simp (disch := omega) only [go_sem, seval, e1]
    refine ACalls.det (c1 _) ?_
    simp (disch := omega) only [go_sem, seval]
    obtain ⟨n, hn⟩ : ∃ n : Nat, w y = n := ⟨(w y).toNat, by omega⟩
    have hap : repV w (dn ++ [y]) = repV w dn ++ List.replicate n (Fr.oneV y.person) := by
      rw [repV, repV, List.flatMap_append, List.flatMap_cons, List.flatMap_nil, List.append_nil, hn]; rfl
    rw [hn]
    obtain ⟨K, hK⟩ : ∃ K : AH, K = h ++ X := ⟨_, rfl⟩
    refine awp_loopL (β := Abs.Own × AH) (List.replicate n ()) [1, 4, 6, 7, 8, 9, 15, 16] (fun dm b => [(1, .func wv [] []), (4, .sl (repV w dn ++ List.replicate dm.length (Fr.oneV y.person)) b.1), (6, .ptr (some (h.length + X.length, 0))), (7, .sl (l.map encHd) .free), (8, .int .i64 l.length), (9, .int .i64 dn.length), (15, .int .i64 n), (16, .int .i64 dm.length)]) (fun b => h ++ b.2) (fun dm _ b => OwnAt h b.2 ((repV w dn).length + dm.length) b.1 ∧ b.2[X.length]? = some (.row [.int .i64 y.person, .int .i64 y.weight] 75)) (own, X ++ [.row [.int .i64 y.person, .int .i64 y.weight] 75]) ?_ ?_ ⟨hown.app _, by simp⟩ Ty.mixed (by kernel_rfl) ?_ ?_
    · simp (disch := omega) only [go_sem, seval, List.length_nil, List.replicate_zero, List.append_nil]
    · simp
    · rintro dm u r2 ⟨ow, Z⟩ hdm ⟨hownZ, hZ⟩
      simp only at hownZ hZ ⊢
      have hl2 := rep_unit hdm
      have gz : (h ++ Z)[h.length + X.length]? = some (.row [.int .i64 y.person, .int .i64 y.weight] 75) := by rw [hget_add]; exact hZ
      simp (disch := omega) only [go_sem, seval]
      refine aIf.pos (by omega) ?_
      simp (disch := omega) only [go_sem, seval, gz]
      have hro : RowsOK 3 (repV w dn ++ List.replicate dm.length (Fr.oneV y.person)) := rowsOK_one _ fun a ha => by
        rcases List.mem_append.1 ha with ha | ha
        · exact repV_mem ha
        · exact ⟨_, List.eq_of_mem_replicate ha⟩
      have hlr : (repV w dn ++ List.replicate dm.length (Fr.oneV y.person)).length = (repV w dn).length + dm.length := by rw [List.length_append, List.length_replicate]
      rw [show [AV.agg [.int .i64 y.person, .int .i64 0, .sl [] .full]] = [Fr.oneV y.person] from rfl]
      refine aAp_sl (by rw [hlr]; exact hownZ) hro (rowsOK_one _ fun a ha => ⟨y.person, by simpa using ha⟩) (by rw [hlr, List.length_singleton]; omega) (by rw [hlr, List.length_singleton]; omega) fun j' own' ho' hg => ?_
      simp (disch := omega) only [go_sem, seval]
      refine roundL_next (own', j') ⟨?_, hg.2 _ _ hZ (fun n e => by cases e)⟩ ?_ rfl
      · rw [hlr] at ho'
        rw [List.length_append, List.length_singleton]
        simpa [Nat.add_assoc] using ho'
      · simp (disch := omega) only [go_sem, seval, List.length_append, List.replicate_succ', List.append_assoc]
    · rintro ⟨ow, Z⟩ ⟨hownZ, hZ⟩
      simp only at hownZ hZ ⊢
      simp (disch := omega) only [go_sem, seval, List.length_replicate]
      refine AWP.keep [1, 4, 7, 8, 9] (aCode_ok Ty.mixed _ _ _ _ (by kernel_rfl) ?_)
      simp (disch := omega) only [go_sem, seval]
      refine roundL_next (ow, Z) ?_ ?_ rfl
      · rw [hap, List.length_append, List.length_replicate]
        rwa [List.length_replicate] at hownZ
      · simp (disch := omega) only [go_sem, seval, List.length_append, hap]
  · rintro ⟨own, X⟩ hown
    simp only at hown ⊢
    simp (disch := omega) only [go_sem, seval, List.length_map]
    refine AWP.keep [4] (aCode_ok Ty.mixed _ _ _ _ (by kernel_rfl) ?_)
    simp (disch := omega) only [go_sem, seval]
    rw [loose_rep]
    exact ⟨Fr.rb_Gs _ _ ▸ trivial, rfl⟩
end Go.Proofs.YtplllkjobpjaoaaGreatDoor

/- The program's kinds of expressions, gate. No conditions. -/
set_option linter.unusedSimpArgs false
set_option linter.unusedVariables false
namespace Go.Proofs.YtplllkjobpjaoaaGreatDoor
open Go Go.Proofs Go.Abs

set_option maxRecDepth 100000 in
theorem k21_calls (Γ : Nat → Option (List AV)) (y : Hd) (h : AH) : ACalls Tryz.prog Γ 53 [encHd y] h fun v h' => h' = h ∧ v = .int .i64 1 := by
  refine ACalls.drop ?_
  rw [encHd]
  refine acalls_code (rs := [.tmp 2]) Tryz.func53 rfl rfl rfl rfl Ty.mixed (by kernel_rfl) ?_
  simp (disch := omega) only [go_sem, seval]
set_option maxRecDepth 100000 in
theorem k31_calls (Γ : Nat → Option (List AV)) (y : Hd) (h : AH) : ACalls Tryz.prog Γ 55 [encHd y] h fun v h' => h' = h ∧ v = .int .i64 y.weight := by
  refine ACalls.drop ?_
  rw [encHd]
  refine acalls_code (rs := [.tmp 2]) Tryz.func55 rfl rfl rfl rfl Ty.mixed (by kernel_rfl) ?_
  simp (disch := omega) only [go_sem, seval]
theorem row_get {hs : List (List Hd)} {no : Int} (h : 0 ≤ no ∧ no < hs.length) : (encHl hs)[no.toNat]? = some (.sl ((rowH hs no).map encHd) .free) := by
  have : no.toNat < hs.length := by omega
  rw [encHl, List.getElem?_map, rowH, List.getD_eq_getElem?_getD, List.getElem?_eq_getElem this]; rfl
set_option maxRecDepth 100000 in
theorem k2_calls (Γ : Nat → Option (List AV)) (v : Int) (hs : List (List Hd)) (x : Ex) (i : Nat) (h : AH) (hi : h[i]? = some (.row [.func 51 [] []] 87)) (hno : 0 ≤ x.no ∧ x.no < hs.length) (hl : (rowH hs x.no).length ≤ 100) :
    ACalls Tryz.prog Γ 52 [encCm v hs, encX x, .ptr (some (i, 0))] h fun w h' => h' = h ∧ w = Fr.encG (.mk (-1) 1 (repG (fun _ => 1) (rowH hs x.no))) := by
  have c1 := fun h => lvs_calls Γ (rowH hs x.no) 53 (fun _ => 1) h hl (fun _ _ => by decide) fun y _ h => k21_calls Γ y h
  have hil := (List.getElem?_eq_some_iff.1 hi).1
  have gi : ∀ l, (h ++ l)[i]? = some (.row [.func 51 [] []] 87) := fun l => by rw [List.getElem?_append_left hil]; exact hi
  have e1 := row_get hno
  refine ACalls.drop ?_
  rw [encCm, cmC, encX_eq, Fr.encG_mk]
  refine acalls_code (rs := [.cell 5 34]) Tryz.func52 rfl rfl rfl rfl Ty.mixed (by kernel_rfl) ?_
  simp (disch := omega) only [go_sem, seval, gi]
  refine ⟨by omega, ?_⟩
  rw [e1]
  simp (disch := omega) only [go_sem, seval]
  refine aCallF.intro (fun _ => c1 _) ?_
  simp (disch := omega) only [go_sem, seval]
set_option maxRecDepth 100000 in
theorem k3_calls (Γ : Nat → Option (List AV)) (v : Int) (hs : List (List Hd)) (x : Ex) (i : Nat) (h : AH) (hi : h[i]? = some (.row [.func 51 [] []] 87)) (hno : 0 ≤ x.no ∧ x.no < hs.length) (hl : (rowH hs x.no).length ≤ 100) (hw : ∀ y ∈ rowH hs x.no, 1 ≤ y.weight ∧ y.weight ≤ 64) :
    ACalls Tryz.prog Γ 54 [encCm v hs, encX x, .ptr (some (i, 0))] h fun w h' => h' = h ∧ w = Fr.encG (.mk (-1) x.n (repG Hd.weight (rowH hs x.no))) := by
  have c1 := fun h => lvs_calls Γ (rowH hs x.no) 55 Hd.weight h hl (fun y hy => by have := hw y hy; omega) fun y _ h => k31_calls Γ y h
  have hil := (List.getElem?_eq_some_iff.1 hi).1
  have gi : ∀ l, (h ++ l)[i]? = some (.row [.func 51 [] []] 87) := fun l => by rw [List.getElem?_append_left hil]; exact hi
  have e1 := row_get hno
  refine ACalls.drop ?_
  rw [encCm, cmC, encX_eq, Fr.encG_mk]
  refine acalls_code (rs := [.cell 5 34]) Tryz.func54 rfl rfl rfl rfl Ty.mixed (by kernel_rfl) ?_
  simp (disch := omega) only [go_sem, seval, gi]
  refine ⟨by omega, ?_⟩
  rw [e1]
  simp (disch := omega) only [go_sem, seval]
  refine aCallF.intro (fun _ => c1 _) ?_
  simp (disch := omega) only [go_sem, seval]
/-- What gate says of an expression. -/
def GatC (Γ : Nat → Option (List AV)) (v : Int) (hs : List (List Hd)) (x : Ex) : Prop :=
  ∀ h, ACalls Tryz.prog Γ 21 [encCm v hs, encX x] h fun w h' => h' = h ∧ w = Fr.encG (formG v hs x)
set_option maxRecDepth 100000 in
theorem k5_calls (Γ : Nat → Option (List AV)) (v : Int) (hs : List (List Hd)) (x : Ex) (h : AH) (hl : x.l.length = 2) (IH : ∀ y ∈ x.l, GatC Γ v hs y) :
    ACalls Tryz.prog Γ 57 [encCm v hs, encX x] h fun w h' => h' = h ∧ w = Fr.encG ((x.l.map (formG v hs)).getD (if v ≤ x.n then 0 else 1) zeroG) := by
  obtain ⟨a, b, hab⟩ : ∃ a b, x.l = [a, b] := by
    match hx : x.l with
    | [] => rw [hx] at hl; cases hl
    | [_] => rw [hx] at hl; cases hl
    | [a, b] => exact ⟨a, b, rfl⟩
    | _ :: _ :: _ :: _ => rw [hx] at hl; simp at hl
  refine ACalls.drop ?_
  simp only [GatC, encCm, cmC] at IH ⊢
  rw [encX_eq]
  have ia := IH a (by rw [hab]; simp)
  have ib := IH b (by rw [hab]; simp)
  rw [hab, List.map_cons, List.map_cons, List.map_nil, List.map_cons, List.map_cons, List.map_nil]
  refine acalls_code (rs := [.cell 4 34]) Tryz.func57 rfl rfl rfl rfl Ty.mixed (by kernel_rfl) ?_
  simp (disch := omega) only [go_sem, seval]
  refine aIf.intro (fun h1 => ?_) (fun h1 => ?_) <;> simp (disch := omega) only [go_sem, seval]
  · refine aCallF.intro (fun _ => ia _) ?_
    simp (disch := omega) only [go_sem, seval]
    rw [if_pos h1]; rfl
  · refine aCallF.intro (fun _ => ib _) ?_
    simp (disch := omega) only [go_sem, seval]
    rw [if_neg h1]; rfl
end Go.Proofs.YtplllkjobpjaoaaGreatDoor

/- The program's gate. No conditions. -/
set_option linter.unusedSimpArgs false
set_option linter.unusedVariables false
namespace Go.Proofs.YtplllkjobpjaoaaGreatDoor
open Go Go.Proofs Go.Abs

def k4K (h : AH) (v : Int) (hs : List (List Hd)) (x : Ex) (dn : List Ex) (own : Abs.Own) : AH := h ++ [.row [.int .i64 v, .sl (encHl hs) .free] 57, .row [.int .i64 x.k, .int .i64 x.n, .int .i64 x.no, .str ⟨⟨x.name⟩⟩, .sl (x.l.map encX) .free] 26, .row [.int .i64 0, .int .i64 0, .sl [] .full] 34, .row [.int .i64 (-1), .int .i64 x.n, .sl (dn.map fun y => Fr.encG (formG v hs y)) own] 34]
theorem rows_form (v : Int) (hs : List (List Hd)) (l : List Ex) : RowsOK 3 (l.map fun y => Fr.encG (formG v hs y)) := fun r hr => by
  obtain ⟨x, _, rfl⟩ := List.mem_map.1 hr
  refine ⟨Fr.encG_len _, fun c hc => ?_⟩
  cases hx : formG v hs x
  rw [hx] at hc
  simp only [Fr.encG_mk, AV.cells, List.mem_cons, List.not_mem_nil, or_false] at hc
  rcases hc with rfl | rfl | rfl <;> rfl
set_option maxHeartbeats 1600000 in
set_option maxRecDepth 100000 in
theorem k4_calls (Γ : Nat → Option (List AV)) (v : Int) (hs : List (List Hd)) (x : Ex) (h : AH) (hl : x.l.length ≤ 1000) (IH : ∀ y ∈ x.l, GatC Γ v hs y) :
    ACalls Tryz.prog Γ 56 [encCm v hs, encX x] h fun w h' => h' = h ∧ w = Fr.encG (.mk (-1) x.n (x.l.map (formG v hs))) := by
  refine ACalls.dropL ?_
  simp only [GatC, encCm, cmC] at IH ⊢
  rw [encX_eq, Fr.encG_mk]
  refine acalls_code (rs := [.cell 4 34]) Tryz.func56 rfl rfl rfl rfl Ty.mixed (by kernel_rfl) ?_
  simp (disch := omega) only [go_sem, seval, List.length_map]
  refine awp_loopL (β := List Ex × Abs.Own × AH) x.l [2, 4, 5, 12, 13, 14] (fun don _ => [(2, .ptr (some (h.length, 0))), (4, .ptr (some (h.length + 2, 0))), (5, .ptr (some (h.length + 3, 0))), (12, .sl (x.l.map encX) .free), (13, .int .i64 x.l.length), (14, .int .i64 don.length)]) (fun b => k4K h v hs x b.1 b.2.1 ++ b.2.2) (fun don _ b => b.1 = don ∧ OwnAt (k4K h v hs x b.1 b.2.1) b.2.2 don.length b.2.1) ([], .full, []) ?_ (by simp [k4K]) ⟨rfl, trivial⟩ Ty.mixed (by kernel_rfl) ?_ ?_
  · simp (disch := omega) only [go_sem, seval, List.length_nil]
  · rintro don y r ⟨dn, own, X⟩ hdn ⟨rfl, hown⟩
    simp only at hown ⊢
    have hlen : x.l.length = dn.length + 1 + r.length := by rw [hdn]; simp; omega
    have e1 : (x.l.map encX)[dn.length]? = some (encX y) := by rw [hdn]; exact rowMid ..
    have c4 := IH y (by rw [hdn]; simp)
    rw [encX_eq] at e1 c4
    simp (disch := omega) only [go_sem, seval, List.length_map, k4K]
    refine aIf.pos (by omega) ?_
    simp (disch := omega) only [go_sem, seval, e1, k4K]
    refine aCallF.intro (fun _ => c4 _) ?_
    simp (disch := omega) only [go_sem, seval, k4K]
    have eh : ∀ dn own X, h ++ .row [.int .i64 v, .sl (encHl hs) .free] 57 :: .row [.int .i64 x.k, .int .i64 x.n, .int .i64 x.no, .str ⟨⟨x.name⟩⟩, .sl (x.l.map encX) .free] 26 :: .row [.int .i64 0, .int .i64 0, .sl [] .full] 34 :: .row [.int .i64 (-1), .int .i64 x.n, .sl (dn.map fun y => Fr.encG (formG v hs y)) own] 34 :: X = k4K h v hs x dn own ++ X := fun dn own X => by simp [k4K]
    rw [eh]
    refine aAp_sl (by rw [List.length_map]; exact hown.app _) (rows_form v hs _) (rows_form v hs [y]) (by simp; omega) (by simp; omega) fun j' own' ho' hg => ?_
    rw [k4K]
    simp (disch := omega) only [go_sem, seval]
    refine roundL_next (dn ++ [y], own', j') ⟨rfl, ?_⟩ ?_ ?_
    · refine OwnAt.len (K := k4K h v hs x dn own) ?_ (by simp [k4K])
      simpa using ho'
    · simp (disch := omega) only [go_sem, seval, List.length_append]
    · simp [k4K]
  · rintro ⟨dn, own, X⟩ ⟨rfl, hown⟩
    simp only at hown ⊢
    simp (disch := omega) only [go_sem, seval, List.length_map, k4K]
    refine AWP.keep [4, 5] (aCode_ok Ty.mixed _ _ _ _ (by kernel_rfl) ?_)
    simp (disch := omega) only [go_sem, seval, k4K]
    rw [show x.l.map (fun y => Fr.encG (formG v hs y)) = (x.l.map (formG v hs)).map Fr.encG from by rw [List.map_map]; rfl, Fr.loose_Gs]
    exact ⟨Fr.rb_Gs _ _ ▸ trivial, rfl⟩
def kndM (b : Nat) : List (Int × AV) := [(1, .func 52 [] [.ptr (some (b, 0))]), (2, .func 54 [] [.ptr (some (b, 0))]), (3, .func 56 [] []), (4, .func 57 [] [])]
def kndH (b : Nat) : AH := [.row [.func 51 [] []] 87, .map (mEnts (fun n => .int .i64 n) id 0 (kndM b)) 4]
set_option maxRecDepth 100000 in
theorem kinds_calls (Γ : Nat → Option (List AV)) (h : AH) : ACalls Tryz.prog Γ 34 [] h fun w h' => h' = h ++ kndH h.length ∧ w = .map (some (h.length + 1)) := by
  refine acalls_code (rs := [.tmp 0]) Tryz.func34 rfl rfl rfl rfl Ty.mixed (by kernel_rfl) ?_
  simp (disch := omega) only [go_sem, seval]
  have st : ∀ (k : Int) (V : AV) (m : List (Int × AV)), (aFind (.int .i64 k) (mEnts (fun n => .int .i64 n) id 0 m)).bind (putEnt (mEnts (fun n => .int .i64 n) id 0 m) m.length (.int .i64 k) V) = some (.map (mEnts (fun n => .int .i64 n) id 0 (mUpd k V m)) (mUpd k V m).length) := fun k V m => mPut (fun n => .int .i64 n) id k V m (mFind_int id k m 0)
  refine (congrArg (fun z => aMuR z _ _ _) (st 1 _ [])).mpr ?_
  simp (disch := omega) only [go_sem, seval]
  refine (congrArg (fun z => aMuR z _ _ _) (st 2 _ _)).mpr ?_
  simp (disch := omega) only [go_sem, seval]
  refine (congrArg (fun z => aMuR z _ _ _) (st 3 _ _)).mpr ?_
  simp (disch := omega) only [go_sem, seval]
  refine (congrArg (fun z => aMuR z _ _ _) (st 4 _ _)).mpr ?_
  simp (disch := omega) only [go_sem, seval]
  rfl
end Go.Proofs.YtplllkjobpjaoaaGreatDoor
