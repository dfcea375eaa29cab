/- Texts joined: LivA, LivB, LivC, LivD. No conditions. -/
import Derived.Test.YtnioapinljedmaaMrJ
import Derived.Test.YtnioapinljedmaaMrI
/- The program's check of formulas and people: whom it gathers. No conditions. -/
set_option linter.unusedSimpArgs false
set_option linter.unusedVariables false
namespace Go.Proofs.Ytnioapinljedmaa
open Go Go.Proofs Go.Abs

/-- A set of people as a map's entries. -/
def entsB : Nat → List Int → List (Nat × AV × AV)
  | _, [] => []
  | i, n :: r => (i, .int .i64 n, .bool true) :: entsB (i + 1) r
theorem entsB_app (l r : List Int) (i : Nat) : entsB i (l ++ r) = entsB i l ++ entsB (i + l.length) r := by
  induction l generalizing i with
  | nil => simp [entsB]
  | cons a l ih => simp [entsB, ih, Nat.add_assoc, Nat.add_comm 1]
theorem entsB_find (p : Int) (l : List Int) (i : Nat) : (p ∈ l ∧ ∃ j e, aFind (.int .i64 p) (entsB i l) = some (some j) ∧ (entsB i l)[j]? = some e ∧ e.2 = (.int .i64 p, .bool true)) ∨ (p ∉ l ∧ aFind (.int .i64 p) (entsB i l) = some none) := by
  induction l generalizing i with
  | nil => exact .inr ⟨by simp, rfl⟩
  | cons a r ih =>
    by_cases ha : p = a
    · subst ha
      exact .inl ⟨by simp, 0, _, by simp [entsB, aFind], rfl, rfl⟩
    · rcases ih (i + 1) with ⟨h1, j, e, h2, h3, h4⟩ | ⟨h1, h2⟩
      · exact .inl ⟨by simp [h1], j + 1, e, by simp [entsB, aFind, ha, h2], by simpa [entsB] using h3, h4⟩
      · exact .inr ⟨by simp [ha, h1], by simp [entsB, aFind, ha, h2]⟩
def addK (n : Int) (ks : List Int) : List Int := if n ∈ ks then ks else ks ++ [n]
theorem put_ents (n : Int) (ks : List Int) : (aFind (.int .i64 n) (entsB 0 ks)).bind (putEnt (entsB 0 ks) ks.length (.int .i64 n) (.bool true)) = some (.map (entsB 0 (addK n ks)) (addK n ks).length) := by
  rcases entsB_find n ks 0 with ⟨h1, j, e, h2, h3, h4⟩ | ⟨h1, h2⟩
  · rw [h2, addK, if_pos h1]
    obtain ⟨e1, e2⟩ := e
    simp only at h4
    subst h4
    simp only [Option.bind_some, putEnt, h3, Option.map_some]
    congr 2
    apply List.ext_getElem?
    intro k
    rw [List.getElem?_set]
    split
    · rename_i hk; subst hk
      rw [if_pos (List.getElem?_eq_some_iff.1 h3).1, h3]
    · rfl
  · rw [h2, addK, if_neg h1]
    simp [putEnt, entsB_app, entsB]
mutual
def keysF : List Int → Gt → List Int
  | ks, .mk p _ l => keysL (if 0 ≤ p then addK p ks else ks) l
def keysL : List Int → List Gt → List Int
  | ks, [] => ks
  | ks, x :: r => keysL (keysF ks x) r
end
theorem keysL_app : ∀ (a b : List Gt) (ks : List Int), keysL ks (a ++ b) = keysL (keysL ks a) b
  | [], _, _ => rfl
  | x :: a, b, ks => by simp only [List.cons_append, keysL]; exact keysL_app a b _
def mapO (ks : List Int) : AObj := .map (entsB 0 ks) ks.length
theorem rb_mapO (n : Nat) (ks : List Int) : RBobj n (mapO ks) := by
  have : ∀ (ks : List Int) (i j : Nat) (e : Nat × AV × AV), (entsB i ks)[j]? = some e → RB n e.2.1 ∧ RB n e.2.2 := fun ks => by
    induction ks with
    | nil => intro i j e he; simp [entsB] at he
    | cons a r ih =>
      intro i j e he
      cases j with
      | zero => simp [entsB] at he; subst he; exact ⟨.int _ _, .bool _⟩
      | succ j => exact ih (i + 1) j e (by simpa [entsB] using he)
  exact this ks 0
theorem kept_map (h : AH) (M : Nat) (ks : List Int) : LoopKept h (h.set M (mapO ks)) := LoopKept.set (rb_mapO _ ks) (fun _ _ _ e => by cases e)
def wlkV (i j : Nat) : AV := .func 74 [] [.ptr (some (i, 0)), .ptr (some (j, 0))]
set_option maxRecDepth 100000 in
theorem wlk_calls_k (Γ : Nat → Option (List AV)) : ∀ (k : Nat) (g : Gt) (ks : List Int) (h : AH) (i j M : Nat), SizeOf.sizeOf g < k → Sh g → h[i]? = some (.row [.map (some M)] 90) → h[j]? = some (.row [wlkV i j] 91) → h[M]? = some (mapO ks) →
    ACalls Try.prog Γ 74 [encG g, .ptr (some (i, 0)), .ptr (some (j, 0))] h fun v h' => h' = h.set M (mapO (keysF ks g)) ∧ v = .tuple []
  | 0, _, _, _, _, _, _, hk, _, _, _, _ => absurd hk (Nat.not_lt_zero _)
  | k + 1, .mk p n l, ks, h, i, j, M, hsz, hs, hi, hj, hM => by
    have hi' := hget_of hi
    have hj' := hget_of hj
    have hM' := hget_of hM
    have hiM : i ≠ M := fun e => by subst e; rw [hi] at hM; cases hM
    have hjM : j ≠ M := fun e => by subst e; rw [hj] at hM; cases hM
    refine ACalls.dropAs (kept_map _ _ _) ?_
    refine acalls_code (rs := []) Try.func74 rfl rfl rfl rfl Ty.mixed (by kernel_rfl) ?_
    simp only [encG_mk]
    simp (disch := omega) only [go_sem, seval]
    have hl1 := hs.len
    have hl2 := hs.mem
    have hput := put_ents p ks
    have S0 : ∀ (o : AObj) (R : AH), (h.set M o ++ R)[h.length]? = R[0]? := fun o R => by
      have := hget_zero (h.set M o) R
      rwa [List.length_set] at this
    have Sk : ∀ (o : AObj) (R : AH) (q : Nat), (h.set M o ++ R)[h.length + q]? = R[q]? := fun o R q => by
      have := hget_add (h.set M o) R q
      rwa [List.length_set] at this
    have Si : ∀ (o : AObj) (R : AH), (h.set M o ++ R)[i]? = some (.row [.map (some M)] 90) := fun o R => by rw [hget_in _ (by simpa using hi'), List.getElem?_set_ne (fun e => hiM e.symm)]; exact hi
    have Sj : ∀ (o : AObj) (R : AH), (h.set M o ++ R)[j]? = some (.row [wlkV i j] 91) := fun o R => by rw [hget_in _ (by simpa using hj'), List.getElem?_set_ne (fun e => hjM e.symm)]; exact hj
    have SM : ∀ (o : AObj) (R : AH), (h.set M o ++ R)[M]? = some o := fun o R => by rw [hget_in _ (by simpa using hM'), List.getElem?_set_self hM']
    have SS : ∀ (o o' : AObj) (R : AH), (h.set M o ++ R).set M o' = h.set M o' ++ R := fun o o' R => by rw [List.set_append_left _ _ (by simpa using hM'), List.set_set]
    refine aIf.intro (fun h1 => ?_) (fun h1 => ?_) <;> simp (disch := omega) only [go_sem, seval]
    · simp (disch := omega) only [go_sem, seval, hget_in _ hi', hi, hget_in _ hM', hM, mapO, hput]
      rw [hset_left _ _ hM']
      obtain ⟨ks1, hk1⟩ : ∃ ks1, ks1 = addK p ks := ⟨_, rfl⟩
      have hkf : keysF ks (.mk p n l) = keysL ks1 l := by rw [keysF, if_pos h1, hk1]
      rw [← hk1, hkf]
      simp (disch := omega) only [go_sem, seval, S0]
      refine awp_loopL (β := List AObj) l [1, 2, 13, 14, 15] (fun don _ => [(1, .ptr (some (i, 0))), (2, .ptr (some (j, 0))), (13, .sl (l.map encG) .free), (14, .int .i64 l.length), (15, .int .i64 don.length)])
        (fun jj => h.set M (mapO (keysL ks1 (l.take jj.length))) ++ .row [.int .i64 p, .int .i64 n, .sl (l.map encG) .free] 24 :: jj) (fun don _ jj => jj.length = don.length) [] ?_ ?_ rfl Ty.mixed (by kernel_rfl) ?_ ?_
      · simp (disch := omega) only [go_sem, seval]
      · simp [keysL, mapO]
      · rintro don x r jj rfl hjj
        have hl3 := len_mid hl1
        rw [show (don ++ x :: r).take jj.length = don from by simp [hjj]]
        simp (disch := omega) only [go_sem, seval, List.map_append, List.map_cons, List.length_append]
        refine aIf.pos (by omega) ?_
        have e1 : ∀ (o a : AObj) (R : AH), (h.set M o ++ a :: (jj ++ R))[h.length + (jj.length + 1)]? = R[0]? := fun o a R => by rw [Sk, List.getElem?_cons_succ]; exact hget_zero jj R
        have e2 : ∀ (o a o' : AObj) (R : AH), (h.set M o ++ a :: (jj ++ R)).set (h.length + (jj.length + 1)) o' = h.set M o ++ a :: (jj ++ R.set 0 o') := fun o a o' R => by
          have h1 := hset_add (h.set M o) (a :: (jj ++ R)) (jj.length + 1) o'
          rw [List.length_set] at h1
          rw [h1, List.set_cons_succ]
          have h2 := hset_add jj R 0 o'
          rw [Nat.add_zero] at h2
          rw [h2]
        simp (disch := omega) only [go_sem, seval, List.map_append, List.map_cons, List.length_append, List.length_set, Sj, wlkV, e1, e2]
        refine ACalls.detH (wlk_calls_k Γ k x (keysL ks1 don) _ i j M (mem_sz (by simp) hsz) (hl2 x (by simp)) (Si _ _) (Sj _ _) (SM _ _)) ?_
        rw [SS]
        simp (disch := omega) only [go_sem, seval]
        refine roundL_next (jj ++ [.row (encG x).cells 24]) (by simp [hjj]) ?_ ?_
        · simp (disch := omega) only [go_sem, seval, List.length_append, List.map_append, List.map_cons]
        · rw [show (don ++ x :: r).take (jj ++ [AObj.row (encG x).cells 24]).length = don ++ [x] from by simp [hjj, List.take_append, List.take_of_length_le], keysL_app]
          simp [keysL]
      · intro jj hjj
        simp (disch := omega) only [go_sem, seval, List.length_map]
        exact ⟨.row [.int .i64 p, .int .i64 n, .sl (l.map encG) .free] 24 :: jj, by rw [hjj, List.take_length]; rfl⟩
    · obtain ⟨ks1, hk1⟩ : ∃ ks1, ks1 = ks := ⟨_, rfl⟩
      have hkf : keysF ks (.mk p n l) = keysL ks1 l := by rw [keysF, if_neg h1, hk1]
      rw [hkf]
      rw [show h ++ [AObj.row [.int .i64 p, .int .i64 n, .sl (l.map encG) .free] 24] = h.set M (mapO ks1) ++ [.row [.int .i64 p, .int .i64 n, .sl (l.map encG) .free] 24] from by rw [hk1, hset_same hM]]
      refine awp_loopL (β := List AObj) l [1, 2, 13, 14, 15] (fun don _ => [(1, .ptr (some (i, 0))), (2, .ptr (some (j, 0))), (13, .sl (l.map encG) .free), (14, .int .i64 l.length), (15, .int .i64 don.length)])
        (fun jj => h.set M (mapO (keysL ks1 (l.take jj.length))) ++ .row [.int .i64 p, .int .i64 n, .sl (l.map encG) .free] 24 :: jj) (fun don _ jj => jj.length = don.length) [] ?_ ?_ rfl Ty.mixed (by kernel_rfl) ?_ ?_
      · simp (disch := omega) only [go_sem, seval]
      · simp [keysL, mapO]
      · rintro don x r jj rfl hjj
        have hl3 := len_mid hl1
        rw [show (don ++ x :: r).take jj.length = don from by simp [hjj]]
        simp (disch := omega) only [go_sem, seval, List.map_append, List.map_cons, List.length_append]
        refine aIf.pos (by omega) ?_
        have e1 : ∀ (o a : AObj) (R : AH), (h.set M o ++ a :: (jj ++ R))[h.length + (jj.length + 1)]? = R[0]? := fun o a R => by rw [Sk, List.getElem?_cons_succ]; exact hget_zero jj R
        have e2 : ∀ (o a o' : AObj) (R : AH), (h.set M o ++ a :: (jj ++ R)).set (h.length + (jj.length + 1)) o' = h.set M o ++ a :: (jj ++ R.set 0 o') := fun o a o' R => by
          have h1 := hset_add (h.set M o) (a :: (jj ++ R)) (jj.length + 1) o'
          rw [List.length_set] at h1
          rw [h1, List.set_cons_succ]
          have h2 := hset_add jj R 0 o'
          rw [Nat.add_zero] at h2
          rw [h2]
        simp (disch := omega) only [go_sem, seval, List.map_append, List.map_cons, List.length_append, List.length_set, Sj, wlkV, e1, e2]
        refine ACalls.detH (wlk_calls_k Γ k x (keysL ks1 don) _ i j M (mem_sz (by simp) hsz) (hl2 x (by simp)) (Si _ _) (Sj _ _) (SM _ _)) ?_
        rw [SS]
        simp (disch := omega) only [go_sem, seval]
        refine roundL_next (jj ++ [.row (encG x).cells 24]) (by simp [hjj]) ?_ ?_
        · simp (disch := omega) only [go_sem, seval, List.length_append, List.map_append, List.map_cons]
        · rw [show (don ++ x :: r).take (jj ++ [AObj.row (encG x).cells 24]).length = don ++ [x] from by simp [hjj, List.take_append, List.take_of_length_le], keysL_app]
          simp [keysL]
      · intro jj hjj
        simp (disch := omega) only [go_sem, seval, List.length_map]
        exact ⟨.row [.int .i64 p, .int .i64 n, .sl (l.map encG) .free] 24 :: jj, by rw [hjj, List.take_length]⟩
theorem wlk_calls (Γ : Nat → Option (List AV)) (g : Gt) (ks : List Int) (h : AH) (i j M : Nat) (hs : Sh g) (hi : h[i]? = some (.row [.map (some M)] 90)) (hj : h[j]? = some (.row [wlkV i j] 91)) (hM : h[M]? = some (mapO ks)) :
    ACalls Try.prog Γ 74 [encG g, .ptr (some (i, 0)), .ptr (some (j, 0))] h fun v h' => h' = h.set M (mapO (keysF ks g)) ∧ v = .tuple [] :=
  wlk_calls_k Γ _ g ks h i j M (Nat.lt_succ_self _) hs hi hj hM
end Go.Proofs.Ytnioapinljedmaa

/- The program's check of a gate and a list of people. No conditions. -/
set_option linter.unusedSimpArgs false
set_option linter.unusedVariables false
namespace Go.Proofs.Ytnioapinljedmaa
open Go Go.Proofs Go.Abs

/-! ### Lists of one's own as arrays -/
/-- A list of one's own: nil, or an array with room behind it. -/
def OwnM (b : Nat) (j : AH) (T : TypeId) (v : AV) (xs : List AV) : Prop :=
  (v = .sl [] .full ∧ xs = []) ∨ ∃ q c pad, v = .ms (b + q) 0 xs.length c 1 ∧ j[q]? = some (.row (xs ++ pad) T) ∧ c = xs.length + pad.length ∧ ∀ a ∈ pad, a.isAgg = false
theorem OwnM.more {b : Nat} {j : AH} {T : TypeId} {v : AV} {xs : List AV} (h : OwnM b j T v xs) (k : AH) : OwnM b (j ++ k) T v xs := by
  rcases h with h | ⟨q, c, pad, h1, h2, h3⟩
  · exact .inl h
  · exact .inr ⟨q, c, pad, h1, by rw [List.getElem?_append_left (List.getElem?_eq_some_iff.1 h2).1]; exact h2, h3⟩
theorem flat_I (l : List Int) : flat (encI l) = encI l := by
  induction l with
  | nil => rfl
  | cons x l ih =>
    have : flat (.int .i64 x :: encI l) = .int .i64 x :: flat (encI l) := rfl
    rw [encI_cons, this, ih]
theorem splice_app {xs pad ys : List AV} (h : xs.length + ys.length ≤ xs.length + pad.length) : splice (xs ++ pad) (0 + xs.length * 1) ys = xs ++ ys ++ pad.drop ys.length := by
  rw [Nat.zero_add, Nat.mul_one]
  rcases ys with _ | ⟨y, _ | ⟨z, ys⟩⟩
  · simp [splice]
  · cases pad with
    | nil => exact absurd h (by simp)
    | cons p pad => simp [splice]
  · simp [splice]
theorem aApM_own {v x : AV} {xs ys : List AV} {h j : AH} {T : TypeId} {by_ : Nat} {z : List AV} {Q : AV → AH → Prop} (hv : OwnM h.length j T v xs) (hs : SrcIs x (h ++ j) ys) (hx : RowsOK 1 ys) (hf : flat ys = ys) (hne : ys ≠ [])
    (h63 : xs.length + ys.length ≤ 9223372036854775807) (hby : (xs.length + ys.length) * by_ ≤ 140737488355328) (H : ∀ v' j', OwnM h.length j' T v' (xs ++ ys) → j.length ≤ j'.length → Q v' (h ++ j')) : aApM (some (1, by_, z, T)) v x (h ++ j) Q := by
  refine ⟨ys, hs, hx, ?_⟩
  rcases hv with ⟨rfl, rfl⟩ | ⟨q, c, pad, rfl, h2, h3, h4⟩
  · refine ⟨by simpa using h63, by simpa using hby, fun e => absurd e hne, fun _ c hc => ?_⟩
    rw [hf, List.append_assoc]
    have := H (.ms (h ++ j).length 0 ys.length c 1) (j ++ [.row (ys ++ List.replicate ((c - ys.length) * 1) .top) T]) (.inr ⟨j.length, c, List.replicate (c - ys.length) .top, by simp, by simp, by simp; omega, fun a ha => by rw [List.eq_of_mem_replicate ha]; rfl⟩) (by simp)
    simpa using this
  · have hq := (List.getElem?_eq_some_iff.1 h2).1
    have hg : (h ++ j)[h.length + q]? = some (.row (xs ++ pad) T) := by rw [hget_add]; exact h2
    refine ⟨rfl, h63, hby, by omega, ?_⟩
    rw [hg]
    refine ⟨by simp; omega, fun hle => ?_, fun hlt c' hc' => ?_⟩
    · have := H (.ms (h.length + q) 0 (xs.length + ys.length) c 1) (j.set q (.row (xs ++ ys ++ pad.drop ys.length) T)) (.inr ⟨q, c, pad.drop ys.length, by simp, by simp [hq], by simp; omega, fun a ha => h4 a (List.mem_of_mem_drop ha)⟩) (by simp)
      rw [hset_add, hf]
      rw [show splice (xs ++ pad) (0 + xs.length * 1) ys = xs ++ ys ++ pad.drop ys.length from splice_app (by omega)]
      exact this
    · have := H (.ms (h ++ j).length 0 (xs.length + ys.length) c' 1) (j ++ [.row (xs ++ ys ++ List.replicate ((c' - (xs.length + ys.length)) * 1) .top) T]) (.inr ⟨j.length, c', List.replicate (c' - (xs.length + ys.length)) .top, by simp, by simp, by simp; omega, fun a ha => by rw [List.eq_of_mem_replicate ha]; rfl⟩) (by simp)
      rw [hf]
      simpa using this

theorem OwnM.shift {b : Nat} {k j : AH} {T : TypeId} {v : AV} {xs : List AV} (h : OwnM (b + k.length) j T v xs) : OwnM b (k ++ j) T v xs := by
  rcases h with h | ⟨q, c, pad, h1, h2, h3, h4⟩
  · exact .inl h
  · exact .inr ⟨k.length + q, c, pad, by rw [h1, Nat.add_assoc], by rw [hget_add]; exact h2, h3, h4⟩
theorem OwnM.src {H j : AH} {T : TypeId} {v : AV} {l : List Int} (h : OwnM H.length j T v (encI l)) : SrcIs v (H ++ j) (encI l) := by
  rcases h with ⟨rfl, h2⟩ | ⟨q, c, pad, rfl, h2, h3, h4⟩
  · exact h2
  · refine ⟨encI l ++ pad, T, by rw [hget_add]; exact h2, rfl, by simp, fun x hx => ?_, by simp⟩
    rw [List.drop_zero, List.take_left] at hx
    obtain ⟨n, _, rfl⟩ := List.mem_map.1 hx; rfl
theorem aApM_all {v x : AV} {xs ys : List AV} {h j : AH} {T : TypeId} {by_ : Nat} {z : List AV} {Q : AV → AH → Prop} (hv : OwnM h.length j T v xs) (hs : SrcIs x (h ++ j) ys) (hx : RowsOK 1 ys) (hf : flat ys = ys)
    (h63 : xs.length + ys.length ≤ 9223372036854775807) (hby : (xs.length + ys.length) * by_ ≤ 140737488355328) (H : ∀ v' j', OwnM h.length j' T v' (xs ++ ys) → j.length ≤ j'.length → Q v' (h ++ j')) : aApM (some (1, by_, z, T)) v x (h ++ j) Q := by
  by_cases hne : ys = []
  · subst hne
    have key := H v j (by simpa using hv) (Nat.le_refl _)
    refine ⟨[], hs, hx, ?_⟩
    rcases hv with ⟨rfl, rfl⟩ | ⟨q, c, pad, rfl, h2, h3, h4⟩
    · exact ⟨by simp, by simp, fun _ => key, fun e => absurd rfl e⟩
    · have hg : (h ++ j)[h.length + q]? = some (.row (xs ++ pad) T) := by rw [hget_add]; exact h2
      refine ⟨rfl, h63, hby, by omega, ?_⟩
      rw [hg]
      refine ⟨by simp; omega, fun _ => ?_, fun hlt => by simp at hlt; omega⟩
      rw [show splice (xs ++ pad) (0 + xs.length * 1) (flat []) = xs ++ pad from by rw [hf]; simp [splice], hset_same hg]
      exact key
  · exact aApM_own hv hs hx hf hne h63 hby H

/-- **The end of a function whose result may hold an array of its own**, a list from now on. -/
theorem ACalls.endM {P : Program} {Γ : Nat → Option (List AV)} {f : FuncId} {args : List AV} {h : AH} {R : AV → Prop} (H : ACalls P Γ f args h fun v h' => (∃ l, h' = h ++ l) ∧ ((RB h.length (loose v) ∧ R (loose v)) ∨ ∃ q cs T, h'[h.length + q]? = some (.row cs T) ∧ RB h.length (loose (fzV (h.length + q) cs v)) ∧ R (loose (fzV (h.length + q) cs v)))) :
    ACalls P Γ f args h fun v h' => h' = h ∧ R v := by
  refine ACalls.dropL ⟨H.1, fun G w vs hI hv => (H.2 G w vs hI hv).mono fun e w' hr => ?_⟩
  obtain ⟨v, G', av, h', k1, k2, k3, k4, ⟨l, rfl⟩, k5 | ⟨q, cs, T, e1, k5⟩⟩ := hr
  · exact ⟨v, G', av, _, k1, k2, k3, k4, ⟨l, rfl⟩, k5⟩
  · obtain ⟨b, vals, q1, q2, q3⟩ := k3.freeze e1 (Froze.set e1)
    exact ⟨v, _, _, _, k1, k2.trans q1, q2, q3 _ _ k4, ⟨l.set q .frozen, hset_add h l q .frozen⟩, k5⟩

theorem fzL_maps {α : Type} (f : α → AV) {i : Nat} {cs : List AV} (hf : ∀ a, fzV i cs (f a) = f a) (l : List α) : fzL i cs (l.map f) = l.map f := by
  rw [fzL_map, List.map_map]
  exact List.map_congr_left fun a _ => hf a
theorem fz_tuple (i : Nat) (cs l : List AV) : fzV i cs (.tuple l) = .tuple (fzL i cs l) := rfl
theorem fz_agg (i : Nat) (cs l : List AV) : fzV i cs (.agg l) = .agg (fzL i cs l) := rfl
theorem fz_sl (i : Nat) (cs l : List AV) (o : Abs.Own) : fzV i cs (.sl l o) = .sl (fzL i cs l) o := rfl
theorem fz_int (i : Nat) (cs : List AV) (k : IntKind) (n : Int) : fzV i cs (.int k n) = .int k n := rfl
theorem fz_bool (i : Nat) (cs : List AV) (b : Bool) : fzV i cs (.bool b) = .bool b := rfl
theorem fz_cons (i : Nat) (cs l : List AV) (a : AV) : fzL i cs (a :: l) = fzV i cs a :: fzL i cs l := rfl
theorem fz_nil (i : Nat) (cs : List AV) : fzL i cs [] = [] := rfl
theorem fz_G (i : Nat) (cs : List AV) : ∀ g : Gt, fzV i cs (encG g) = encG g
  | .mk p n l => by
    have : fzL i cs (l.map encG) = l.map encG := by
      rw [fzL_map, List.map_map]
      exact List.map_congr_left fun g hg => fz_G i cs g
    simp [encG_mk, fzV, fzL, this]
theorem fz_Gs (i : Nat) (cs : List AV) (l : List Gt) : fzL i cs (l.map encG) = l.map encG := fzL_maps _ (fz_G i cs) l
theorem fz_I (i : Nat) (cs : List AV) (l : List Int) : fzL i cs (encI l) = encI l := fzL_maps _ (fun _ => rfl) l
theorem fz_own (i c : Nat) (l : List Int) (pad : List AV) (hc : l.length ≤ c) (hp : ∀ a ∈ pad, a.isAgg = false) : fzV i (encI l ++ pad) (.ms i 0 l.length c 1) = .sl (encI l) .free := by
  rw [fzV, if_pos, List.drop_zero, rowsOf_one _ _ (by simp [encI_len]), List.take_append_of_le_length (by simp [encI_len]), ← encI_len l, List.take_length]
  refine ⟨rfl, ?_⟩
  simp only [fzOK, Bool.and_eq_true, decide_eq_true_eq, bne_iff_ne, List.all_eq_true, Bool.not_eq_true', List.length_append, encI_len]
  refine ⟨⟨⟨by omega, hc⟩, by decide⟩, fun a ha => ?_⟩
  rcases List.mem_append.1 ha with ha | ha
  · obtain ⟨x, _, rfl⟩ := List.mem_map.1 ha; rfl
  · exact hp a ha

/-! ### Entries of a set of people -/
theorem entsB_len (l : List Int) (i : Nat) : (entsB i l).length = l.length := by
  induction l generalizing i with
  | nil => rfl
  | cons a l ih => simp [entsB, ih]
theorem entsB_mem (l : List Int) (i : Nat) (e : Nat × AV × AV) (h : e ∈ entsB i l) : ∃ b, b < l.length ∧ e = (i + b, .int .i64 (l.getD b 0), .bool true) := by
  induction l generalizing i with
  | nil => simp [entsB] at h
  | cons a l ih =>
    rcases List.mem_cons.1 h with rfl | h
    · exact ⟨0, by simp, by simp⟩
    · obtain ⟨b, h1, h2⟩ := ih _ h
      exact ⟨b + 1, by simpa using h1, by rw [h2]; simp [Nat.add_assoc, Nat.add_comm 1]⟩
theorem entsB_at (l : List Int) (i b : Nat) (h : b < l.length) : (entsB i l).find? (·.1 == i + b) = some (i + b, .int .i64 (l.getD b 0), .bool true) ∧ (i + b, AV.int .i64 (l.getD b 0), AV.bool true) ∈ entsB i l := by
  induction l generalizing i b with
  | nil => simp at h
  | cons a l ih =>
    cases b with
    | zero => simp [entsB]
    | succ b =>
      obtain ⟨h1, h2⟩ := ih (i + 1) b (by simpa using h)
      have e : i + (b + 1) = i + 1 + b := by omega
      refine ⟨?_, ?_⟩
      · rw [e, entsB, List.find?_cons_of_neg (by simp; omega), h1]; rfl
      · rw [e]; simp [entsB] at h2 ⊢; exact .inr h2
/-- The numbers met so far. -/
def metF (ks : List Int) (seen : List Nat) : List Int := seen.map fun b => ks.getD b 0
theorem met_all {ks : List Int} {seen : List Nat} (h1 : seen.Nodup) (h2 : ∀ b ∈ seen, b < ks.length) (h3 : ∀ b, b < ks.length → b ∈ seen) : (metF ks seen).Perm ks := by
  have hp : seen.Perm (List.range ks.length) := by
    rw [List.perm_ext_iff_of_nodup h1 List.nodup_range]
    intro a
    rw [List.mem_range]
    exact ⟨h2 a, h3 a⟩
  refine (hp.map _).trans ?_
  have : (List.range ks.length).map (fun b => ks.getD b 0) = ks := by
    apply List.ext_getElem
    · simp
    · intro i h1 h2; simp at h1; simp [h1]
  rw [this]
theorem nodup_le : ∀ (a l : List Nat), a.Nodup → (∀ b ∈ a, b ∈ l) → a.length ≤ l.length
  | [], l, _, _ => by simp
  | x :: a, l, h, hm => by
    rw [List.nodup_cons] at h
    have hx := hm x (by simp)
    have := nodup_le a (l.erase x) h.2 fun b hb => (List.mem_erase_of_ne (fun e => by subst e; exact h.1 hb)).2 (hm b (by simp [hb]))
    rw [List.length_erase_of_mem hx] at this
    have := List.length_pos_of_mem hx
    simp; omega
theorem met_len {ks : List Int} {seen : List Nat} (h1 : seen.Nodup) (h2 : ∀ b ∈ seen, b < ks.length) : seen.length ≤ ks.length := by
  have := nodup_le seen (List.range ks.length) h1 (fun b hb => List.mem_range.2 (h2 b hb))
  simpa using this
end Go.Proofs.Ytnioapinljedmaa

/- The program's check of a gate and a list of people: the code. No conditions. -/
set_option linter.unusedSimpArgs false
set_option linter.unusedVariables false
namespace Go.Proofs.Ytnioapinljedmaa
open Go Go.Proofs Go.Abs

def strA (p n : Int) (l : List Gt) (ppl : List Int) : AV := .agg [.int .i64 p, .int .i64 n, .sl (l.map encG) .free, .sl (encI ppl) .free]
def lerrF (g : Gt) (al : List Int) : Int := if checkF g = 0 then (if 12 < (keysF [] g).length then 2 else if ascF (-1) al then 0 else 1) else checkF g
def lstrF : Gt → List Int → AV
  | .mk p n l, al => if lerrF (.mk p n l) al = 0 then strA p n l (sortI (keysF [] (.mk p n l))) else strA 0 0 [] []
/-! ### Sorting nothing -/
set_option maxRecDepth 100000 in
theorem isort0_calls (Γ : Nat → Option (List AV)) (o : Abs.Own) (h : AH) :
    ACalls Try.prog Γ 119 [.sl [] o, .int .i64 0, .int .i64 0] h fun v h' => h' = h := by
  refine acalls_code (rs := []) Try.func119 rfl rfl rfl rfl Ty.mixed (by kernel_rfl) ?_
  simp (disch := omega) only [go_sem, seval]
  refine awp_loopS (α := Unit) [2, 6] (fun s => [(2, .int .i64 0), (6, .int .i64 1)]) (fun s => h) (fun s => True) (fun _ => 0) () ?_ rfl trivial Ty.mixed (by kernel_rfl) ?_
  · simp (disch := omega) only [go_sem, seval]
  rintro _ _
  simp (disch := omega) only [go_sem, seval]
  first | (refine AWP.keep [] (aCode_ok Ty.mixed _ _ _ _ (by kernel_rfl) ?_); simp (disch := omega) only [go_sem, seval]) | skip
set_option maxRecDepth 100000 in
theorem pdq0_calls (Γ : Nat → Option (List AV)) (o : Abs.Own) (m : Int) (h : AH) :
    ACalls Try.prog Γ 101 [.sl [] o, .int .i64 0, .int .i64 0, .int .i64 m] h fun v h' => h' = h := by
  refine acalls_code (rs := []) Try.func101 rfl rfl rfl rfl Ty.mixed (by kernel_rfl) ?_
  simp (disch := omega) only [go_sem, seval]
  refine awp_loopS (α := Unit) [0, 1, 2, 3, 8, 9] (fun _ => [(0, .sl [] o), (1, .int .i64 0), (2, .int .i64 0), (3, .int .i64 m), (8, .bool true), (9, .bool true)])
    (fun _ => h) (fun _ => True) (fun _ => 0) () ?_ rfl trivial Ty.mixed (by kernel_rfl) ?_
  · simp (disch := omega) only [go_sem, seval]
  rintro _ _
  simp (disch := omega) only [go_sem, seval]
  refine ACalls.then (isort0_calls Γ o _) ?_
  rintro _ _ rfl
  simp (disch := omega) only [go_sem, seval]
set_option maxRecDepth 100000 in
theorem sort0_calls (Γ : Nat → Option (List AV)) (o : Abs.Own) (h : AH) :
    ACalls Try.prog Γ 75 [.sl [] o] h fun v h' => h' = h := by
  refine acalls_code (rs := []) Try.func75 rfl rfl rfl rfl Ty.mixed (by kernel_rfl) ?_
  simp (disch := omega) only [go_sem, seval]
  rw [IntWalk.u64_in _ ⟨by omega, by omega⟩]
  refine ACalls.then (len_calls Γ _ _ (by omega) (by omega)) ?_
  rintro _ _ ⟨rfl, m, rfl⟩
  simp (disch := omega) only [go_sem, seval]
  refine ACalls.then (pdq0_calls Γ o m _) ?_
  rintro _ _ rfl
  simp (disch := omega) only [go_sem, seval]
structure CkS where
  seen : List Nat
  v : AV
  j : AH
set_option maxRecDepth 100000 in
theorem lcheck_calls (Γ : Nat → Option (List AV)) (g : Gt) (al : List Int) (h : AH) (hs : Sh g) (hal : al.length ≤ 9223372036854775807) :
    ACalls Try.prog Γ 46 [encG g, .sl (encI al) .free] h fun v h' => h' = h ∧ v = .tuple [lstrF g al, .int .i64 (lerrF g al)] := by
  cases g with | mk p n l =>
  refine ACalls.endM ?_
  refine acalls_code (rs := [.cell 4 62, .tmp 5]) Try.func46 rfl rfl rfl rfl Ty.mixed (by kernel_rfl) ?_
  simp only [encG_mk]
  simp (disch := omega) only [go_sem, seval]
  have hck := fun h => check_calls Γ (.mk p n l) h hs
  have hwk := fun ks h i j M => wlk_calls Γ (.mk p n l) ks h i j M hs
  simp only [encG_mk] at hck hwk
  refine ACalls.det (hck _) ?_
  simp (disch := omega) only [go_sem, seval]
  refine aIf.intro (fun h1 => ?_) (fun h1 => ?_) <;> simp (disch := omega) only [go_sem, seval]
  rotate_left
  · left
    simp [lstrF, lerrF, h1, strA, encI]
  refine ACalls.detH (hwk [] _ (h.length + 3) (h.length + 4) (h.length + 2) ?_ ?_ ?_) ?_
  · simp (disch := omega) only [go_sem, seval]
  · simp (disch := omega) only [go_sem, seval]
    rfl
  · simp (disch := omega) only [go_sem, seval]
    rfl
  obtain ⟨ks, hks⟩ : ∃ ks, ks = keysF [] (.mk p n l) := ⟨_, rfl⟩
  rw [← hks]
  simp (disch := omega) only [go_sem, seval, mapO, entsB_len]
  refine aIf.intro (fun h2 => ?_) (fun h2 => ?_) <;> simp (disch := omega) only [go_sem, seval]
  · left
    simp [lstrF, lerrF, h1, strA, encI, ← hks, show 12 < ks.length by omega]
  have hkl : ks.length ≤ 12 := by omega
  refine awp_loopL (β := Int) al [2, 4, 6, 8, 27, 28, 29] (fun don b => [(2, .ptr (some (h.length, 0))), (4, .ptr (some (h.length + 1, 0))), (6, .ptr (some (h.length + 3, 0))), (8, .int .i64 b), (27, .sl (encI al) .free), (28, .int .i64 al.length), (29, .int .i64 don.length)])
    (fun b => h ++ [.row [.int .i64 p, .int .i64 n, .sl (l.map encG) .free] 24, .row [.int .i64 0, .int .i64 0, .sl [] .full, .sl [] .full] 62, mapO ks, .row [.map (some (h.length + 2))] 90, .row [wlkV (h.length + 3) (h.length + 4)] 91])
    (fun don rest b => ascF (-1) al = ascF b rest) (-1) ?_ rfl rfl Ty.mixed (by kernel_rfl) ?_ ?_
  · simp (disch := omega) only [go_sem, seval, encI_len]
  · rintro don x r b rfl hx
    have hl3 := len_mid hal
    have e1 : (encI (don ++ x :: r))[don.length]? = some (.int .i64 x) := by simp [encI]
    simp (disch := omega) only [go_sem, seval, encI_len, List.length_append, List.length_cons]
    refine aIf.pos (by omega) ?_
    simp (disch := omega) only [go_sem, seval, encI_len, List.length_append, List.length_cons, e1]
    refine aIf.intro (fun h3 => ?_) (fun h3 => ?_) <;> simp (disch := omega) only [go_sem, seval]
    · left
      simp [lstrF, lerrF, h1, strA, encI, ← hks, show ¬ 12 < ks.length by omega, hx, ascF, show ¬ b < x by omega]
    refine aIf.intro (fun h4 => ?_) (fun h4 => ?_) <;> simp (disch := omega) only [go_sem, seval]
    · left
      simp [lstrF, lerrF, h1, strA, encI, ← hks, show ¬ 12 < ks.length by omega, hx, ascF, show ¬ x < 64 by omega]
    refine roundL_next x ?_ ?_ rfl
    · rw [hx]; simp [ascF, show b < x by omega, show x < 64 by omega]
    · simp (disch := omega) only [go_sem, seval, List.length_append]
  · intro b hb
    simp (disch := omega) only [go_sem, seval, encI_len]
    refine AWP.mark (by decide) ?_
    refine AWP.keep [2, 4, 6, 1000000] (aCode_ok Ty.mixed _ _ _ _ (by kernel_rfl) ?_)
    simp (disch := omega) only [go_sem, seval, mapO]
    obtain ⟨K, hK⟩ : ∃ K : AV → List Nat → AH, ∀ v s, K v s = h ++ [.row [.int .i64 p, .int .i64 n, .sl (l.map encG) .free] 24, .row [.int .i64 p, .int .i64 n, .sl (l.map encG) .free, v] 62,
        .map (entsB 0 ks) ks.length, .row [.map (some (h.length + 2))] 90, .row [wlkV (h.length + 3) (h.length + 4)] 91, .iter (some (h.length + 2)) ks.length s] := ⟨_, fun _ _ => rfl⟩
    have Kl : ∀ v s, (K v s).length = h.length + 6 := fun v s => by rw [hK]; simp
    have Ks : ∀ v s (R : AH), (K v s ++ R)[h.length + 1]? = some (.row [.int .i64 p, .int .i64 n, .sl (l.map encG) .free, v] 62) := fun v s R => by rw [hK]; simp
    have Kw : ∀ v s (R : AH) w, (K v s ++ R).set (h.length + 1) (.row [.int .i64 p, .int .i64 n, .sl (l.map encG) .free, w] 62) = K w s ++ R := fun v s R w => by rw [hK, hK]; simp [hset_add]
    have Km : ∀ v s (R : AH), (K v s ++ R)[h.length + 2]? = some (.map (entsB 0 ks) ks.length) := fun v s R => by rw [hK]; simp
    have Ki : ∀ v s (R : AH), (K v s ++ R)[h.length + 5]? = some (.iter (some (h.length + 2)) ks.length s) := fun v s R => by rw [hK]; simp
    have Kj : ∀ v s (R : AH) s', (K v s ++ R).set (h.length + 5) (.iter (some (h.length + 2)) ks.length s') = K v s' ++ R := fun v s R s' => by rw [hK, hK]; simp [hset_add]
    refine awp_loopS (α := CkS) [4, 46, 1000000] (fun s => [(4, .ptr (some (h.length + 1, 0))), (46, .ptr (some (h.length + 5, 0))), (1000000, .tuple [])]) (fun s => K s.v s.seen ++ s.j)
      (fun s => s.seen.Nodup ∧ (∀ b ∈ s.seen, b < ks.length) ∧ OwnM (h.length + 6) s.j 3 s.v (encI (metF ks s.seen))) (fun s => ks.length - s.seen.length) ⟨[], .sl [] .full, []⟩ ?_ ?_ ⟨.nil, by simp, .inl ⟨rfl, rfl⟩⟩ Ty.mixed (by kernel_rfl) ?_
    · simp (disch := omega) only [go_sem, seval]
    · simp [hK]
    rintro ⟨seen, v, j⟩ ⟨hn1, hn2, hv⟩
    simp only at hn1 hn2 hv ⊢
    have hml := met_len hn1 hn2
    simp (disch := omega) only [go_sem, seval, Ki, Km]
    refine ⟨rfl, ?_, ?_, ?_⟩
    · intro e he
      obtain ⟨b, hb1, rfl⟩ := entsB_mem _ _ _ he
      simpa using hb1
    · intro hall
      have hall' : ∀ b, b < ks.length → b ∈ seen := fun b hb => by simpa using hall _ (entsB_at ks 0 b hb).2
      have hperm := met_all hn1 hn2 hall'
      have hl12 : (metF ks seen).length ≤ 12 := by rw [hperm.length_eq]; exact hkl
      have hsrt : sortI (metF ks seen) = sortI ks := sortI_of (sortI_le _) ((sortI_perm _).trans hperm)
      simp (disch := omega) only [go_sem, seval]
      refine AWP.keep [4, 1000000] (aCode_ok Ty.mixed _ _ _ _ (by kernel_rfl) ?_)
      simp (disch := omega) only [go_sem, seval, Ks]
      have herr : lerrF (.mk p n l) al = 0 := by simp [lerrF, h1, ← hks, show ¬ 12 < ks.length by omega, hb, ascF]
      rcases hv with ⟨rfl, hnil⟩ | ⟨q, c, pad, rfl, hq, hc, hp⟩
      · have hk0 : sortI ks = [] := by
          have h5 : metF ks seen = [] := by
            cases hm : metF ks seen with
            | nil => rfl
            | cons a r => rw [hm] at hnil; simp [encI] at hnil
          rw [← hsrt, h5]; rfl
        refine ACalls.then (sort0_calls Γ _ _) ?_
        rintro _ _ rfl
        simp (disch := omega) only [go_sem, seval, Ks, Kw]
        refine ⟨⟨_, by rw [hK, List.append_assoc]⟩, .inl ?_⟩
        simp [lstrF, herr, strA, encI, ← hks, hk0]
        done
      · have hg : ∀ (v : AV) (s : List Nat) (R : AH), (K v s ++ R)[h.length + 6 + q]? = R[q]? := fun v s R => by rw [← Kl v s, hget_add]
        rw [encI_len]
        refine ACalls.then (sort_calls Γ (h.length + 6 + q) c 3 (metF ks seen) pad _ (by rw [hg]; exact hq) hl12) ?_
        rintro _ _ rfl
        rw [show ∀ (v : AV) (s : List Nat) (R : AH) (o : AObj), (K v s ++ R).set (h.length + 6 + q) o = K v s ++ R.set q o from fun v s R o => by rw [← Kl v s, hset_add]]
        simp (disch := omega) only [go_sem, seval, Ks, Kw]
        have hsl : (sortI (metF ks seen)).length = (metF ks seen).length := (sortI_perm _).length_eq
        refine ⟨⟨_, by rw [hK, List.append_assoc]⟩, .inr ⟨6 + q, encI (sortI (metF ks seen)) ++ pad, 3, ?_, ?_⟩⟩
        · rw [← Nat.add_assoc, hg, List.getElem?_set_self (List.getElem?_eq_some_iff.1 hq).1]
        · rw [← Nat.add_assoc, ← hsl]
          rw [encI_len] at hc
          have hfo := fz_own (h.length + 6 + q) c (sortI (metF ks seen)) pad (by omega) hp
          simp only [fz_tuple, fz_agg, fz_cons, fz_nil, fz_int, fz_sl, fz_Gs, hfo]
          simp (disch := omega) only [go_sem, seval, loose_Gs, rb_Gs]
          simp [lstrF, herr, strA, hsrt, ← hks]
    · intro e he hns
      obtain ⟨b, hb1, rfl⟩ := entsB_mem _ _ _ he
      rw [Nat.zero_add] at hns ⊢
      have hfd := (entsB_at ks 0 b hb1).1
      rw [Nat.zero_add] at hfd
      rw [Kj]
      simp (disch := omega) only [go_sem, seval, Ki, Km, hfd, Ks]
      refine ⟨by omega, rfl, by simp [AV.cells, AV.one], ?_⟩
      simp (disch := omega) only [go_sem, seval, Ks, Kl, List.append_assoc, List.length_append]
      refine aApM_own (xs := encI (metF ks seen)) (ys := encI [ks.getD b 0]) (by rw [Kl]; exact hv.more _) ⟨[.int .i64 (ks.getD b 0)], 3, ?_, rfl, by simp, by simp [AV.one], rfl⟩ (rowsOK_I _) (flat_I _) (by simp [encI]) ?_ ?_ fun v' j' hv' _ => ?_
      · rw [← Kl v (seen ++ [b]), hget_add]; simp [flat, AV.cells]
      · simp only [encI_len, metF, List.length_map, List.length_cons, List.length_nil]; omega
      · simp only [encI_len, metF, List.length_map, List.length_cons, List.length_nil]; omega
      rw [encI_app2] at hv'
      have hvc : v'.cells = [v'] := by rcases hv' with ⟨rfl, _⟩ | ⟨_, _, _, rfl, _⟩ <;> rfl
      have hvg : v'.good = true := by rcases hv' with ⟨rfl, _⟩ | ⟨_, _, _, rfl, _⟩ <;> rfl
      simp (disch := omega) only [go_sem, seval, Ks, Kw, hvc, hvg]
      have hq1 : (seen ++ [b]).Nodup := by rw [List.nodup_append]; exact ⟨hn1, by simp, by simpa using fun a ha e => hns (by simpa [← e] using ha)⟩
      have hq2 : ∀ a ∈ seen ++ [b], a < ks.length := by
        intro a ha
        rcases List.mem_append.1 ha with ha | ha
        · exact hn2 a ha
        · simp at ha; omega
      have hq3 := met_len hq1 hq2
      refine roundS_next ⟨seen ++ [b], v', j'⟩ ?_ ⟨hq1, hq2, ?_⟩ ?_ rfl
      · simp only [List.length_append, List.length_cons, List.length_nil] at hq3 ⊢; omega
      · rw [Kl] at hv'; simpa [metF] using hv'
      · simp (disch := omega) only [go_sem, seval]
end Go.Proofs.Ytnioapinljedmaa

/- Copies of lists, deleting from them, lists without others. No conditions. -/
set_option linter.unusedSimpArgs false
set_option linter.unusedVariables false
namespace Go.Proofs.Ytnioapinljedmaa
open Go Go.Proofs Go.Abs

/-! ### A function's code, arrays being of its own -/
theorem acalls_codeM {P : Program} {Γ : Nat → Option (List AV)} {h : AH} {f : FuncId} {fn : Func} {c : Code} {args : List AV} {rs : List ResultVar} {R : AV → AH → Prop} (hf : P.funcs[f]? = some fn) (hb : fn.body = some c) (hn : (fn.name == "runtime.NumGoroutine") = false)
    (hN : Nat.ble args.length fn.ntmps = true) (hM : Nat.ble fn.ntmps 1000000 = true) (hrs : fn.results = rs.toArray) (hm : P.follows .mixedOrders = true) (hc : codeOK fn.ntmps c = true) (H : aCode P Γ fn.ntmps c (endA P rs R) ((1000000, .tuple []) :: argsT 0 args) h) : ACalls P Γ f args h R :=
  acalls_of_awp hf hb hn hN hrs (AWP.mark (by simpa [Nat.ble_eq] using hM) (aCode_ok hm c _ _ _ hc H))
/-- All owners forgotten. -/
def lzs (σ : Tm) : Tm := σ.map fun p => (p.1, loose p.2)
theorem lk_lzs (σ : Tm) (i : Nat) : lk (lzs σ) i = loose (lk σ i) := by
  induction σ with
  | nil => rfl
  | cons p σ ih =>
    obtain ⟨q, v⟩ := p
    simp only [lzs, List.map_cons, lk] at ih ⊢
    split
    · rfl
    · exact ih
@[go_sem] theorem lzs_nil : lzs [] = [] := rfl
@[go_sem] theorem lzs_cons (i : Nat) (v : AV) (σ : Tm) : lzs ((i, v) :: σ) = (i, loose v) :: lzs σ := rfl
theorem AWP.lzs {P : Program} {Γ : Nat → Option (List AV)} {N : Nat} {c : Code} {Q : Exit → Tm → AH → Prop} {σ : Tm} {h : AH} (H : AWP P Γ N c Q (lzs σ) h) : AWP P Γ N c Q σ h :=
  H.wks fun G i v hv => by rw [lk_lzs]; exact loose_VR hv

theorem aCut_msLo (n i off len cap sz : Nat) (k : IntKind) (l : Int) (K : AV → Prop) :
    aCut (some (some n)) (.ms i off len cap sz) (some (.int k l)) none none K = (n = sz ∧ 0 ≤ l ∧ l ≤ len ∧ len ≤ cap ∧ K (.ms i (if (cap : Int) = l then off else off + l.toNat * sz) (len - l.toNat) (cap - l.toNat) sz)) := by
  simp only [aCut, aNat, Option.isSome_none, Bool.false_eq_true, false_implies, Int.le_refl, true_and, Int.toNat_natCast]
  apply propext; constructor
  · rintro ⟨h1, h2, h3, h4, h5⟩; exact ⟨h1, h2, h3, by omega, h5⟩
  · rintro ⟨h1, h2, h3, h4, h5⟩; exact ⟨h1, h2, h3, by omega, h5⟩
theorem aCut_msHi (n i off len cap sz : Nat) (k : IntKind) (u : Int) (K : AV → Prop) :
    aCut (some (some n)) (.ms i off len cap sz) none (some (.int k u)) none K = (n = sz ∧ 0 ≤ u ∧ u ≤ cap ∧ K (.ms i (if (cap : Int) = 0 then off else off + 0 * sz) u.toNat cap sz)) := by
  simp only [aCut, aNat, Option.isSome_none, Bool.false_eq_true, false_implies, Int.le_refl, true_and, Int.toNat_natCast, Int.toNat_zero, Nat.sub_zero, Int.ofNat_zero, Int.natCast_zero]

@[go_sem] theorem aBuiltin_clear {P : Program} {h : AH} (t : TypeId) (x : AV) (K : AV → AH → Prop) : aBuiltin P .clear [t] [x] h K = aClear P t x h K := (rfl)
theorem zrow_int (k : Nat) : zrow k [AV.int .i64 0] = encI (List.replicate k 0) := by
  induction k with
  | zero => rfl
  | succ k ih => simp only [zrow, List.replicate_succ, List.flatten_cons, encI_cons] at ih ⊢; rw [ih]; rfl

/-! ### Whether a number is in a list -/
set_option maxRecDepth 100000 in
theorem index_calls_I (Γ : Nat → Option (List AV)) (l : List Int) (x : Int) (h : AH) (hl : l.length ≤ 9223372036854775807) :
    ACalls Try.prog Γ 93 [.sl (encI l) .free, .int .i64 x] h fun v h' => h' = h ∧ ∃ m, v = .int .i64 m ∧ (0 ≤ m ↔ x ∈ l) := by
  refine acalls_code (rs := [.tmp 4]) Try.func93 rfl rfl rfl rfl Ty.mixed (by kernel_rfl) ?_
  simp (disch := omega) only [go_sem, seval]
  refine awp_loopL (β := Unit) l [8, 7, 1, 0] (fun don _ => [(8, .int .i64 don.length), (7, .int .i64 l.length), (1, .int .i64 x), (0, .sl (encI l) .free)])
      (fun b => h) (fun don rest b' => x ∈ l ↔ x ∈ rest) () ?_ rfl Iff.rfl Ty.mixed (by kernel_rfl) ?_ ?_
  · simp (disch := omega) only [go_sem, seval, encI_len]
  · rintro don y r _ rfl hs
    have hl3 := len_mid hl
    have e1 : (encI (don ++ y :: r))[don.length]? = some (.int .i64 y) := by simp [encI]
    simp (disch := omega) only [go_sem, seval, encI_len, List.length_append, List.length_cons]
    refine aIf.pos (by omega) ?_
    simp (disch := omega) only [go_sem, seval, encI_len, List.length_append, List.length_cons, e1]
    refine aIf.intro (fun h1 => ?_) (fun h1 => ?_) <;> simp (disch := omega) only [go_sem, seval]
    · refine ⟨_, rfl, ?_⟩
      rw [hs]; simp [h1]
    · refine roundL_next () ?_ ?_ rfl
      · rw [hs]; simp [h1]
      · simp (disch := omega) only [go_sem, seval, List.length_append]
  · intro _ hs
    simp (disch := omega) only [go_sem, seval, encI_len]
    refine AWP.keep [0] (aCode_ok Ty.mixed _ _ _ _ (by kernel_rfl) ?_)
    simp (disch := omega) only [go_sem, seval]
    refine ⟨_, rfl, ?_⟩
    rw [hs]; simp
set_option maxRecDepth 100000 in
theorem contains_calls_I (Γ : Nat → Option (List AV)) (l : List Int) (x : Int) (h : AH) (hl : l.length ≤ 9223372036854775807) :
    ACalls Try.prog Γ 79 [.sl (encI l) .free, .int .i64 x] h fun v h' => h' = h ∧ v = .bool (decide (x ∈ l)) := by
  refine acalls_code (rs := [.tmp 4]) Try.func79 rfl rfl rfl rfl Ty.mixed (by kernel_rfl) ?_
  simp (disch := omega) only [go_sem, seval]
  refine ACalls.then (index_calls_I Γ l x _ hl) ?_
  rintro _ _ ⟨rfl, m, rfl, hm⟩
  simp (disch := omega) only [go_sem, seval]
  simp [hm]
set_option maxRecDepth 100000 in
theorem outside_calls (Γ : Nat → Option (List AV)) (l : List Int) (x : Int) (i : Nat) (h : AH) (hl : l.length ≤ 9223372036854775807) (hi : h[i]? = some (.row [.sl (encI l) .free] 25)) :
    ACalls Try.prog Γ 78 [.int .i64 x, .ptr (some (i, 0))] h fun v h' => h' = h ∧ v = .bool (decide (x ∈ l)) := by
  refine acalls_code (rs := [.tmp 3]) Try.func78 rfl rfl rfl rfl Ty.mixed (by kernel_rfl) ?_
  simp (disch := omega) only [go_sem, seval, hi]
  refine ACalls.det (contains_calls_I Γ l x _ hl) ?_
  simp (disch := omega) only [go_sem, seval]

/-! ### Copies -/
set_option maxRecDepth 100000 in
theorem clone_calls (Γ : Nat → Option (List AV)) (l : List Int) (h : AH) (hl : l.length ≤ 1000000) :
    ACalls Try.prog Γ 77 [.sl (encI l) .free] h fun v h' => ∃ j, h' = h ++ j ∧ OwnM h.length j 3 v (encI l) := by
  refine acalls_codeM (rs := [.tmp 2]) Try.func77 rfl rfl rfl rfl rfl Ty.mixed (by kernel_rfl) ?_
  simp (disch := omega) only [go_sem, seval]
  refine aNlT_eql (fun h0 => ?_) ?_ <;> simp (disch := omega) only [go_sem, seval]
  · exact ⟨[], by simp, .inl ⟨rfl, h0⟩⟩
  refine ⟨by omega, rfl, by simp, ?_⟩
  simp (disch := omega) only [go_sem, seval, List.map_nil]
  refine ⟨encI l, rfl, rowsOK_I _, rfl, ?_⟩
  simp (disch := omega) only [go_sem, seval, encI_len]
  refine ⟨by omega, by omega, by simp, fun h0 => ?_, fun h0 c hc => ?_⟩
  · have : l = [] := List.eq_nil_of_length_eq_zero (by omega)
    subst this
    exact ⟨_, rfl, .inr ⟨0, 0, [], rfl, rfl, rfl, by simp⟩⟩
  · refine ⟨_, rfl, .inr ⟨1, c, List.replicate (c - l.length) .top, ?_, ?_, ?_, fun a ha => by rw [List.eq_of_mem_replicate ha]; rfl⟩⟩
    · simp [encI_len]
    · simp [flat_I]
    · simp [encI_len]; omega

/-! ### Deleting -/
set_option maxRecDepth 100000 in
theorem findI_calls (Γ : Nat → Option (List AV)) (l : List Int) (p : Int → Bool) (fn : FuncId) (fs cs : List AV) (i c : Nat) (pad : List AV) (T : TypeId) (h : AH) (hl : l.length ≤ 1000000)
    (hi : h[i]? = some (.row (encI l ++ pad) T)) (H : ∀ x, ACalls Try.prog Γ fn (fs ++ .int .i64 x :: cs) h fun v h' => h' = h ∧ v = .bool (p x)) :
    ACalls Try.prog Γ 103 [.ms i 0 l.length c 1, .func fn fs cs] h fun v h' => h' = h ∧ ∃ m, v = .int .i64 m ∧ ((m = -1 ∧ ∀ x ∈ l, p x = false) ∨ ∃ a x r, l = a ++ x :: r ∧ m = a.length ∧ p x = true ∧ ∀ y ∈ a, p y = false) := by
  refine acalls_code (rs := [.tmp 4]) Try.func103 rfl rfl rfl rfl Ty.mixed (by kernel_rfl) ?_
  simp (disch := omega) only [go_sem, seval]
  refine awp_loopL (β := Unit) l [8, 7, 1, 0] (fun don _ => [(8, .int .i64 don.length), (7, .int .i64 l.length), (1, .func fn fs cs), (0, .ms i 0 l.length c 1)])
      (fun b => h) (fun don rest b' => ∀ y ∈ don, p y = false) () ?_ rfl (by simp) Ty.mixed (by kernel_rfl) ?_ ?_
  · simp (disch := omega) only [go_sem, seval]
  · rintro don y r _ rfl hs
    have hl3 := len_mid hl
    simp (disch := omega) only [go_sem, seval, List.length_append, List.length_cons]
    refine aIf.pos (by omega) ?_
    simp (disch := omega) only [go_sem, seval, List.length_append, List.length_cons, Nat.zero_add, Nat.mul_one, hi, encI_app, encI_cons, drop_at, List.append_assoc, List.cons_append]
    refine ⟨by omega, ?_⟩
    refine ACalls.det (H y) ?_
    simp (disch := omega) only [go_sem, seval]
    refine aBr.intro (fun hb => ?_) (fun hb => ?_) <;> simp (disch := omega) only [go_sem, seval]
    · exact ⟨_, rfl, .inr ⟨don, y, r, rfl, rfl, hb, hs⟩⟩
    · refine roundL_next () ?_ ?_ rfl
      · intro z hz
        rcases List.mem_append.1 hz with hz | hz
        · exact hs z hz
        · simp at hz; subst hz; simpa using hb
      · simp (disch := omega) only [go_sem, seval, List.length_append]
  · intro _ hs
    simp (disch := omega) only [go_sem, seval]
    refine AWP.keep [0] (aCode_ok Ty.mixed _ _ _ _ (by kernel_rfl) ?_)
    simp (disch := omega) only [go_sem, seval]
    exact ⟨_, rfl, .inl ⟨rfl, hs⟩⟩
structure DelS where
  kept : List Int
  g : List Int
  rest : List Int
set_option maxRecDepth 100000 in
theorem delete_calls (Γ : Nat → Option (List AV)) (l : List Int) (p : Int → Bool) (fn : FuncId) (fs cs : List AV) (i c : Nat) (pad : List AV) (T : TypeId) (h : AH) (hl : l.length ≤ 1000000)
    (hlc : l.length ≤ c) (hi : h[i]? = some (.row (encI l ++ pad) T)) (hp : ∀ a ∈ pad, a.isAgg = false) (H : ∀ o x, ACalls Try.prog Γ fn (fs ++ .int .i64 x :: cs) (h.set i (.row o T)) fun v h' => h' = h.set i (.row o T) ∧ v = .bool (p x)) :
    ACalls Try.prog Γ 76 [.ms i 0 l.length c 1, .func fn fs cs] h fun v h' => ∃ pad', (∀ a ∈ pad', a.isAgg = false) ∧ h' = h.set i (.row (encI (l.filter fun x => !p x) ++ pad') T) ∧ v = .ms i 0 (l.filter fun x => !p x).length c 1 := by
  have hk : i < h.length := (List.getElem?_eq_some_iff.1 hi).1
  have H0 : ∀ x, ACalls Try.prog Γ fn (fs ++ .int .i64 x :: cs) h fun v h' => h' = h ∧ v = .bool (p x) := fun x => by
    have := H (encI l ++ pad) x
    rwa [hset_same hi] at this
  refine acalls_code (rs := [.tmp 4]) Try.func76 rfl rfl rfl rfl Ty.mixed (by kernel_rfl) ?_
  simp (disch := omega) only [go_sem, seval]
  refine ACalls.then (findI_calls Γ l p fn fs cs i c pad T h hl hi H0) ?_
  rintro _ h2 ⟨h2e, m, rfl, hm⟩
  rw [h2e]
  clear h2e h2
  simp (disch := omega) only [go_sem, seval]
  rcases hm with ⟨rfl, hm⟩ | ⟨a, x, r, rfl, rfl, hx, ha⟩
  · refine aIf.pos rfl ?_
    simp (disch := omega) only [go_sem, seval]
    refine ⟨pad, hp, ?_, ?_⟩ <;> rw [List.filter_eq_self.2 fun x hx => by simp [hm x hx]]
    rw [hset_same hi]
  refine aIf.neg (by omega) ?_
  have hlr := len_mid hl
  have hll : (a ++ x :: r).length = a.length + 1 + r.length := by simp; omega
  rw [hll] at hlc
  simp (disch := omega) only [go_sem, seval]
  refine awp_loopS (α := DelS) [0, 1, 5, 6] (fun s => [(0, .ms i 0 (a ++ x :: r).length c 1), (1, .func fn fs cs), (5, .int .i64 s.kept.length), (6, .int .i64 (s.kept.length + s.g.length))])
    (fun s => h.set i (.row (encI (s.kept ++ (s.g ++ s.rest)) ++ pad) T)) (fun s => s.g ≠ [] ∧ s.kept.length + s.g.length + s.rest.length = (a ++ x :: r).length ∧ (a ++ x :: r).filter (fun x => !p x) = s.kept ++ s.rest.filter fun x => !p x) (fun s => s.rest.length) ⟨a, [x], r⟩ ?_ ?_ ⟨by simp, by simp; omega, ?_⟩ Ty.mixed (by kernel_rfl) ?_
  · simp (disch := omega) only [go_sem, seval, List.length_cons, List.length_nil]
  · rw [show a ++ ([x] ++ r) = a ++ x :: r from rfl, hset_same hi]
  · rw [List.filter_append, List.filter_eq_self.2 fun y hy => by simp [ha y hy], List.filter_cons, if_neg (by simp [hx])]
  rintro ⟨kept, g, rest⟩ ⟨hg, hsum, hfil⟩
  simp only at hg hsum hfil ⊢
  rw [hll] at hsum
  simp (disch := omega) only [go_sem, seval]
  cases rest with
  | nil =>
    simp only [List.length_nil, List.filter_nil, List.append_nil] at hsum hfil ⊢
    refine aIf.neg (by omega) ?_
    refine AWP.keep [0, 5] (aCode_ok Ty.mixed _ _ _ _ (by kernel_rfl) ?_)
    simp (disch := omega) only [go_sem, seval, aCut_msLo, aCut_msHi, hll]
    have hgl : 1 ≤ g.length := by cases g with
      | nil => exact absurd rfl hg
      | cons a g => simp
    refine ⟨by omega, by omega, ?_⟩
    rw [if_neg (by omega)]
    simp (disch := omega) only [go_sem, seval, List.getElem?_set_self hk, List.set_set, aCut_msLo, aCut_msHi, hll, Nat.zero_add, Nat.mul_one]
    have hgm : a.length + 1 + r.length - kept.length = g.length := by omega
    rw [hgm, zrow_int]
    refine ⟨by simp [encI_len], by omega, encI (List.replicate g.length 0) ++ pad, ?_, ?_, ?_⟩
    · intro b hb
      rcases List.mem_append.1 hb with hb | hb
      · obtain ⟨x, _, rfl⟩ := List.mem_map.1 hb; rfl
      · exact hp b hb
    · have := splice_app (xs := encI kept) (pad := encI g ++ pad) (ys := encI (List.replicate g.length 0)) (by simp [encI_len])
      rw [Nat.zero_add, Nat.mul_one, encI_len, encI_len, List.length_replicate, ← encI_len g, List.drop_left, ← List.append_assoc, ← encI_app, encI_len] at this
      rw [this, hfil, List.append_assoc]
    · rw [hfil, ite_self]
  | cons y rest =>
    simp only [List.length_cons] at hsum
    refine aIf.pos (by omega) ?_
    have ix1 : ((kept.length : Int) + g.length).toNat = kept.length + g.length := by omega
    have ed : (encI (kept ++ (g ++ y :: rest)) ++ pad).drop (kept.length + g.length) = .int .i64 y :: (encI rest ++ pad) := by
      rw [← List.append_assoc, encI_app, encI_cons, List.append_assoc, show kept.length + g.length = (encI (kept ++ g)).length from by simp [encI_len], List.drop_left]; rfl
    simp (disch := omega) only [go_sem, seval, List.getElem?_set_self hk, hll, ix1, Nat.zero_add, Nat.mul_one, ed]
    refine ⟨by omega, by omega, ?_⟩
    refine ACalls.det ((H _ y).args (by simp)) ?_
    simp (disch := omega) only [go_sem, seval]
    refine aBr.intro (fun hb => ?_) (fun hb => ?_) <;> simp (disch := omega) only [go_sem, seval, hll]
    · refine roundS_next ⟨kept, g ++ [y], rest⟩ ?_ ⟨by simp, ?_, ?_⟩ ?_ ?_
      · simp
      · simp only [List.length_append, List.length_cons, List.length_nil, hll]; omega
      · rw [hfil, List.filter_cons, if_neg (by simp [hb])]
      · simp (disch := omega) only [go_sem, seval, List.length_append, List.length_cons, List.length_nil, hll, Int.natCast_add, Int.natCast_one, Int.add_assoc]
      · simp
    · cases g with
      | nil => exact absurd rfl hg
      | cons g0 gs =>
        have eset : (encI (kept ++ g0 :: (gs ++ y :: rest)) ++ pad).set kept.length (.int .i64 y) = encI (kept ++ y :: (gs ++ y :: rest)) ++ pad := by
          rw [encI_app, encI_cons, List.append_assoc, List.cons_append, set_at]; simp [encI]
        simp only [List.length_cons] at hsum
        simp (disch := omega) only [go_sem, seval, List.getElem?_set_self hk, List.set_set, Nat.zero_add, Nat.mul_one, hll, eset, List.cons_append]
        refine ⟨by omega, by simp [encI_len]; omega, ?_⟩
        refine roundS_next ⟨kept ++ [y], gs ++ [y], rest⟩ ?_ ⟨by simp, ?_, ?_⟩ ?_ ?_
        · simp
        · simp only [List.length_append, List.length_cons, List.length_nil]; omega
        · rw [hfil, List.filter_cons, if_pos (by simp [hb])]; simp
        · simp (disch := omega) only [go_sem, seval, List.length_append, List.length_cons, List.length_nil, hll, Int.natCast_add, Int.natCast_one, Int.add_assoc]
          rw [show ((kept.length : Int) + (gs.length + 2)) = kept.length + (1 + (gs.length + 1)) from by omega]
        · simp

set_option maxRecDepth 100000 in
theorem find0_calls (Γ : Nat → Option (List AV)) (fv : AV) (o : Abs.Own) (h : AH) :
    ACalls Try.prog Γ 103 [.sl [] o, fv] h fun v h' => h' = h ∧ v = .int .i64 (-1) := by
  refine acalls_code (rs := [.tmp 4]) Try.func103 rfl rfl rfl rfl Ty.mixed (by kernel_rfl) ?_
  simp (disch := omega) only [go_sem, seval]
  refine awp_loopS (α := Unit) [8, 7] (fun _ => [(8, .int .i64 0), (7, .int .i64 0)]) (fun b => h) (fun _ => True) (fun _ => 0) () ?_ rfl trivial Ty.mixed (by kernel_rfl) ?_
  · simp (disch := omega) only [go_sem, seval]
  intro _ _
  simp (disch := omega) only [go_sem, seval]
  refine AWP.keep [8] (aCode_ok Ty.mixed _ _ _ _ (by kernel_rfl) ?_)
  simp (disch := omega) only [go_sem, seval]
set_option maxRecDepth 100000 in
theorem delete0_calls (Γ : Nat → Option (List AV)) (fn : FuncId) (fs cs : List AV) (h : AH) :
    ACalls Try.prog Γ 76 [.sl [] .full, .func fn fs cs] h fun v h' => h' = h ∧ v = .sl [] .full := by
  refine acalls_code (rs := [.tmp 4]) Try.func76 rfl rfl rfl rfl Ty.mixed (by kernel_rfl) ?_
  simp (disch := omega) only [go_sem, seval]
  refine ACalls.det (find0_calls Γ _ _ h) ?_
  simp (disch := omega) only [go_sem, seval]

/-! ### Lists without others -/
set_option maxRecDepth 100000 in
theorem without_calls' (Γ : Nat → Option (List AV)) (l out : List Int) (h : AH) (hl : l.length ≤ 1000000) (ho : out.length ≤ 1000000) :
    ACalls Try.prog Γ 47 [.sl (encI l) .free, .sl (encI out) .free] h fun v h' => h' = h ∧ v = .sl (encI (wtF l out)) .free := by
  refine ACalls.endM ?_
  refine acalls_code (rs := [.tmp 4]) Try.func47 rfl rfl rfl rfl Ty.mixed (by kernel_rfl) ?_
  simp (disch := omega) only [go_sem, seval]
  refine ACalls.then (clone_calls Γ l _ hl) ?_
  rintro v _ ⟨j, rfl, hv⟩
  simp (disch := omega) only [go_sem, seval]
  have hb : ∀ R : AH, (h ++ [.row [.sl (encI out) .free] 25] ++ R)[h.length]? = some (.row [.sl (encI out) .free] 25) := fun R => by simp
  rcases hv with ⟨rfl, hnil⟩ | ⟨q, c, pad, rfl, hq, hc, hp⟩
  · have h0 : l = [] := by cases l with
      | nil => rfl
      | cons a l => simp [encI] at hnil
    subst h0
    refine ACalls.det (delete0_calls Γ _ _ _ _) ?_
    simp (disch := omega) only [go_sem, seval]
    exact .inl rfl
  · have hix : (h ++ .row [.sl (encI out) .free] 25 :: j)[h.length + 1 + q]? = some (.row (encI l ++ pad) 3) := by
      rw [Nat.add_assoc, hget_add, Nat.add_comm 1, List.getElem?_cons_succ]; exact hq
    rw [encI_len]
    rw [encI_len] at hc
    simp (disch := omega) only [go_sem, seval, List.length_append, List.length_cons, List.length_nil]
    refine ACalls.then (delete_calls Γ l (fun x => decide (x ∈ out)) 78 [] [.ptr (some (h.length, 0))] (h.length + 1 + q) c pad 3 _ hl (by omega) hix hp (fun o x => ?_)) ?_
    · refine outside_calls Γ out x h.length _ (by omega) ?_
      rw [List.getElem?_set_ne (by omega)]
      simp
    rintro _ _ ⟨pad', hp', rfl, rfl⟩
    simp (disch := omega) only [go_sem, seval]
    have hqj := (List.getElem?_eq_some_iff.1 hq).1
    have hfl : (wtF l out).length ≤ l.length := List.length_filter_le _ _
    rw [show h.length + 1 + q = h.length + (q + 1) from by omega, hset_add, List.set_cons_succ]
    refine ⟨⟨_, rfl⟩, .inr ⟨q + 1, encI (wtF l out) ++ pad', 3, ?_, ?_⟩⟩
    · rw [hget_add, List.getElem?_cons_succ, List.getElem?_set_self hqj]; rfl
    · have hfo := fz_own (h.length + (q + 1)) c (wtF l out) pad' (by omega) hp'
      have hw : (l.filter fun x => !decide (x ∈ out)) = wtF l out := rfl
      rw [hw, hfo]
      simp (disch := omega) only [go_sem, seval]
end Go.Proofs.Ytnioapinljedmaa
