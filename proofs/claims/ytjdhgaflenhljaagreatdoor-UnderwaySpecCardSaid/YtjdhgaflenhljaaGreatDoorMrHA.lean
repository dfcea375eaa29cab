/- Texts joined: SoA, SoB, SoM, SoT. No conditions. -/
import Derived.Test.YtjdhgaflenhljaaGreatDoorMrF
import Derived.Test.YtjdhgaflenhljaaGreatDoorMrG
import Derived.Test.YtjdhgaflenhljaaGreatDoorMrEA
/- The library's sort of few numbers: what it leaves. No conditions. -/
set_option linter.unusedSimpArgs false
set_option linter.unusedVariables false
namespace Go.Proofs.YtjdhgaflenhljaaGreatDoor.So
open Go Go.Proofs Go.Abs

theorem encI_app (l m : List Int) : encI (l ++ m) = encI l ++ encI m := by simp [encI]
theorem encI_cons (x : Int) (l : List Int) : encI (x :: l) = .int .i64 x :: encI l := rfl
theorem encI_len (l : List Int) : (encI l).length = l.length := by simp [encI]
def insI (x : Int) : List Int → List Int
  | [] => [x]
  | y :: r => if x ≤ y then x :: y :: r else y :: insI x r
def sortI : List Int → List Int
  | [] => []
  | x :: r => insI x (sortI r)
theorem insI_perm (x : Int) (l : List Int) : (insI x l).Perm (x :: l) := by
  induction l with
  | nil => exact .refl _
  | cons y r ih =>
    simp only [insI]
    split
    · exact .refl _
    · exact (ih.cons y).trans (.swap x y r)
theorem insI_le (x : Int) (l : List Int) (h : l.Pairwise (· ≤ ·)) : (insI x l).Pairwise (· ≤ ·) := by
  induction l with
  | nil => simp [insI]
  | cons y r ih =>
    obtain ⟨h1, h2⟩ := List.pairwise_cons.1 h
    simp only [insI]
    split
    · rename_i hxy
      refine List.pairwise_cons.2 ⟨fun z hz => ?_, h⟩
      rcases List.mem_cons.1 hz with rfl | hz
      · exact hxy
      · exact Int.le_trans hxy (h1 z hz)
    · rename_i hxy
      refine List.pairwise_cons.2 ⟨fun z hz => ?_, ih h2⟩
      rcases List.mem_cons.1 ((insI_perm x r).mem_iff.1 hz) with rfl | hz
      · omega
      · exact h1 z hz
theorem sortI_perm (l : List Int) : (sortI l).Perm l := by
  induction l with
  | nil => exact .refl _
  | cons x r ih => exact (insI_perm x _).trans (ih.cons x)
theorem sortI_le (l : List Int) : (sortI l).Pairwise (· ≤ ·) := by
  induction l with
  | nil => exact .nil
  | cons x r ih => exact insI_le x _ ih
theorem sortI_of {l s : List Int} (h1 : s.Pairwise (· ≤ ·)) (h2 : s.Perm l) : s = sortI l :=
  List.Perm.eq_of_pairwise (le := (· ≤ ·)) (fun a b _ _ h1 h2 => Int.le_antisymm h1 h2) h1 (sortI_le l) (h2.trans (sortI_perm l).symm)

/-! ### Cells of a list of numbers -/
theorem drop_at (l : List Int) (x : AV) (R : List AV) : (encI l ++ x :: R).drop l.length = x :: R := by
  have := List.drop_left (l₁ := encI l) (l₂ := x :: R)
  rwa [encI_len] at this
theorem drop_at1 (l : List Int) (x y : AV) (R : List AV) : (encI l ++ x :: y :: R).drop (l.length + 1) = y :: R := by
  rw [← encI_len l, List.drop_append]
  simp
theorem set_at (l : List Int) (x z : AV) (R : List AV) : (encI l ++ x :: R).set l.length z = encI l ++ z :: R := by
  rw [← encI_len l, List.set_append_right _ _ (Nat.le_refl _)]; simp
theorem set_at1 (l : List Int) (x y z : AV) (R : List AV) : (encI l ++ x :: y :: R).set (l.length + 1) z = encI l ++ x :: z :: R := by
  rw [← encI_len l, List.set_append_right _ _ (by omega)]; simp
set_option maxRecDepth 100000 in
theorem isnan_calls (Γ : Nat → Option (List AV)) (x : Int) (h : AH) : ACalls Tryz.prog Γ 74 [.int .i64 x] h fun v h' => h' = h ∧ v = .bool false := by
  refine ACalls.drop ?_
  refine acalls_code (rs := [.tmp 2]) Tryz.func74 rfl rfl rfl rfl Ty.mixed (by kernel_rfl) ?_
  simp (disch := omega) only [go_sem, seval]
theorem less_calls (Γ : Nat → Option (List AV)) (x y : Int) (h : AH) : ACalls Tryz.prog Γ 52 [.int .i64 x, .int .i64 y] h fun v h' => h' = h ∧ v = .bool (decide (x < y)) := by
  refine ACalls.drop ?_
  refine acalls_code (rs := [.tmp 4]) Tryz.func52 rfl rfl rfl rfl Ty.mixed (by kernel_rfl) ?_
  simp (disch := omega) only [go_sem, seval]
  refine ACalls.det (isnan_calls Γ x _) ?_
  simp (disch := omega) only [go_sem, seval]
theorem isort_calls (Γ : Nat → Option (List AV)) (i c : Nat) (T : TypeId) (l : List Int) (pad : List AV) (h : AH) (hi : h[i]? = some (.row (encI l ++ pad) T)) (hl : l.length ≤ 1000000) :
    ACalls Tryz.prog Γ 46 [.ms i 0 l.length c 1, .int .i64 0, .int .i64 l.length] h fun v h' => h' = h.set i (.row (encI (sortI l) ++ pad) T) := by
  refine acalls_code (rs := []) Tryz.func46 rfl rfl rfl rfl Ty.mixed (by kernel_rfl) ?_
  simp (disch := omega) only [go_sem, seval]
  refine awp_loopL (β := List Int) l.tail [0, 1, 2, 6] (fun don s => [(0, .ms i 0 l.length c 1), (1, .int .i64 0), (2, .int .i64 l.length), (6, .int .i64 (don.length + 1))])
    (fun s => h.set i (.row (encI s ++ pad) T)) (fun don r s => ∃ s0, s = s0 ++ r ∧ s0.Pairwise (· ≤ ·) ∧ s0.length = min l.length (don.length + 1) ∧ s.Perm l) l ?_ ?_ ?_ Ty.mixed (by kernel_rfl) ?_ ?_
  · simp (disch := omega) only [go_sem, seval]
  · rw [hset_same hi]
  · cases l with
    | nil => exact ⟨[], rfl, .nil, by simp, .refl _⟩
    | cons a l => exact ⟨[a], rfl, by simp, by simp, .refl _⟩
  · rintro don x r s hx ⟨s0, rfl, h1, h2, h3⟩
    have hlx : l.length = don.length + 1 + (r.length + 1) := by
      have h4 := congrArg List.length hx
      simp at h4
      cases l with
      | nil => simp at h4
      | cons a l => simp at h4 ⊢; omega
    have h5 : s0.length = don.length + 1 := by omega
    simp (disch := omega) only [go_sem, seval]
    refine aIf.pos (by omega) ?_
    simp (disch := omega) only [go_sem, seval]
    refine awp_loopS (α := List Int × List Int) [0, 1, 2, 6, 7] (fun s => [(0, .ms i 0 l.length c 1), (1, .int .i64 0), (2, .int .i64 l.length), (6, .int .i64 (don.length + 1)), (7, .int .i64 s.1.length)])
      (fun s => h.set i (.row (encI s.1 ++ .int .i64 x :: (encI s.2 ++ (encI r ++ pad))) T)) (fun s => s0 = s.1 ++ s.2 ∧ ∀ y ∈ s.2, x ≤ y) (fun s => s.1.length) (s0, []) ?_ ?_ ⟨by simp, by simp⟩ Ty.mixed (by kernel_rfl) ?_
    · simp (disch := omega) only [go_sem, seval]
      rw [h5]
      simp
    · rw [encI_app, encI_cons]
      simp [encI]
    rintro ⟨s1, s2⟩ ⟨rfl, h6⟩
    simp only at h6 h1 h2 h3 h5 ⊢
    rcases List.eq_nil_or_concat s1 with rfl | ⟨s1, y, rfl⟩
    · simp (disch := omega) only [go_sem, seval]
      refine AWP.keep [0, 1, 2, 6] (aCode_ok Ty.mixed _ _ _ _ (by kernel_rfl) ?_)
      simp (disch := omega) only [go_sem, seval]
      refine roundL_next (x :: s2 ++ r) ⟨x :: s2, rfl, ?_, ?_, ?_⟩ ?_ ?_
      · exact List.pairwise_cons.2 ⟨fun y hy => h6 y hy, by simpa using h1⟩
      · simp at h5 ⊢; omega
      · refine List.Perm.trans ?_ h3
        simpa using (List.perm_middle (a := x) (l₁ := s2) (l₂ := r)).symm
      · simp (disch := omega) only [go_sem, seval, List.length_append]
      · rw [encI_app, encI_cons]; simp [encI]
    · rw [List.concat_eq_append] at *
      have hc : (encI (s1 ++ [y]) ++ AV.int .i64 x :: (encI s2 ++ (encI r ++ pad))) = encI s1 ++ .int .i64 y :: .int .i64 x :: (encI s2 ++ (encI r ++ pad)) := by rw [encI_app]; simp [encI]
      rw [hc]
      have hk : i < h.length := (List.getElem?_eq_some_iff.1 hi).1
      simp (disch := omega) only [go_sem, seval, List.length_append, List.getElem?_set_self hk]
      refine aIf.pos (by omega) ?_
      have ix1 : ((s1.length : Int) + 1).toNat = s1.length + 1 := by omega
      have hll : s1.length + 1 + s2.length = don.length + 1 := by simp at h5; omega
      simp (disch := omega) only [go_sem, seval, List.length_append, List.getElem?_set_self hk, ix1, Nat.zero_add, Nat.mul_one, drop_at, drop_at1]
      refine ⟨by omega, by omega, by omega, ?_⟩
      refine aCallF.intro (fun _ => less_calls Γ x y _) ?_
      simp (disch := omega) only [go_sem, seval]
      refine aIf.intro (fun h8 => ?_) (fun h8 => ?_) <;> simp (disch := omega) only [go_sem, seval]
      · simp (disch := omega) only [go_sem, seval, List.length_append, List.getElem?_set_self hk, ix1, Nat.zero_add, Nat.mul_one, drop_at, drop_at1, List.set_set, set_at, set_at1, encI_len]
        refine ⟨by omega, by omega, by omega, by omega, by omega, by omega, by omega, by omega, ?_⟩
        refine roundS_next (s1, y :: s2) (by simp) ⟨by simp, ?_⟩ ?_ ?_
        · intro z hz
          rcases List.mem_cons.1 hz with rfl | hz
          · omega
          · exact h6 z hz
        · simp (disch := omega) only [go_sem, seval, List.length_append]
        · simp [encI]
      · refine AWP.keep [0, 1, 2, 6] (aCode_ok Ty.mixed _ _ _ _ (by kernel_rfl) ?_)
        simp (disch := omega) only [go_sem, seval]
        refine roundL_next (s1 ++ y :: x :: s2 ++ r) ⟨s1 ++ y :: x :: s2, rfl, ?_, ?_, ?_⟩ ?_ ?_
        · rw [List.append_assoc, List.pairwise_append] at h1
          obtain ⟨k1, k2, k3⟩ := h1
          simp only [List.cons_append, List.nil_append, List.pairwise_cons] at k2
          rw [List.pairwise_append]
          refine ⟨k1, ?_, ?_⟩
          · simp only [List.pairwise_cons, List.mem_cons]
            refine ⟨?_, h6, k2.2⟩
            rintro z (rfl | hz)
            · omega
            · exact k2.1 z hz
          · intro a ha b hb
            have e1 := k3 a ha y (by simp)
            rcases List.mem_cons.1 hb with rfl | hb
            · exact e1
            rcases List.mem_cons.1 hb with rfl | hb
            · omega
            · exact k3 a ha b (by simp [hb])
        · simp at h5 ⊢; omega
        · refine List.Perm.trans ?_ h3
          simp only [List.append_assoc, List.cons_append, List.nil_append]
          refine List.Perm.append_left s1 (List.Perm.cons y ?_)
          exact (List.perm_middle (a := x) (l₁ := s2) (l₂ := r)).symm
        · simp (disch := omega) only [go_sem, seval, List.length_append]
        · simp [encI]
  · rintro s ⟨s0, rfl, h1, h2, h3⟩
    simp (disch := omega) only [go_sem, seval]
    refine aIf.neg (by cases l <;> simp) ?_
    simp (disch := omega) only [go_sem, seval]
    rw [List.append_nil] at h3
    rw [sortI_of h1 h3]
end Go.Proofs.YtjdhgaflenhljaaGreatDoor.So

/- The library's sort of at most twelve numbers; copies; deleting. No conditions. -/
set_option linter.unusedSimpArgs false
set_option linter.unusedVariables false
namespace Go.Proofs.YtjdhgaflenhljaaGreatDoor.So
open Go Go.Proofs Go.Abs

theorem byte_at {s : ByteArray} {k : Nat} (h : k < s.size) : ∃ b, s[k]? = some b := ⟨s[k], by simp [h]⟩
set_option maxRecDepth 100000 in
theorem len64_calls (Γ : Nat → Option (List AV)) (n : Int) (h : AH) (h0 : 0 ≤ n) (h1 : n ≤ 200) : ACalls Tryz.prog Γ 56 [.int .u64 n] h fun v h' => h' = h ∧ ∃ m, v = .int .i64 m := by
  refine ACalls.drop ?_
  refine acalls_code (rs := [.tmp 2]) Tryz.func56 rfl rfl rfl rfl Ty.mixed (by kernel_rfl) ?_
  simp (disch := omega) only [go_sem, seval]
  refine aIf.neg (by omega) ?_
  simp (disch := omega) only [go_sem, seval]
  refine aIf.neg (by omega) ?_
  simp (disch := omega) only [go_sem, seval]
  refine aIf.neg (by omega) ?_
  simp (disch := omega) only [go_sem, seval]
  rw [IntWalk.u8_in n ⟨h0, by omega⟩]
  refine Exists.imp (p := fun b => _ = some b) (fun b hb => ⟨hb, _, rfl⟩) (byte_at ?_)
  exact Nat.lt_of_lt_of_le (m := 256) (by omega) (by decide +kernel)
theorem len_calls (Γ : Nat → Option (List AV)) (n : Int) (h : AH) (h0 : 0 ≤ n) (h1 : n ≤ 200) : ACalls Tryz.prog Γ 37 [.int .u64 n] h fun v h' => h' = h ∧ ∃ m, v = .int .i64 m := by
  refine ACalls.drop ?_
  refine acalls_code (rs := [.tmp 2]) Tryz.func37 rfl rfl rfl rfl Ty.mixed (by kernel_rfl) ?_
  simp (disch := omega) only [go_sem, seval]
  refine ACalls.then (len64_calls Γ n _ h0 h1) ?_
  rintro _ _ ⟨rfl, m, rfl⟩
  simp (disch := omega) only [go_sem, seval]
  exact ⟨m, rfl⟩
theorem pdq_calls (Γ : Nat → Option (List AV)) (i c : Nat) (T : TypeId) (l : List Int) (pad : List AV) (m : Int) (h : AH) (hi : h[i]? = some (.row (encI l ++ pad) T)) (hl : l.length ≤ 12) :
    ACalls Tryz.prog Γ 36 [.ms i 0 l.length c 1, .int .i64 0, .int .i64 l.length, .int .i64 m] h fun v h' => h' = h.set i (.row (encI (sortI l) ++ pad) T) := by
  refine acalls_code (rs := []) Tryz.func36 rfl rfl rfl rfl Ty.mixed (by kernel_rfl) ?_
  simp (disch := omega) only [go_sem, seval]
  refine awp_loopS (α := Unit) [0, 1, 2, 3, 8, 9] (fun _ => [(0, .ms i 0 l.length c 1), (1, .int .i64 0), (2, .int .i64 l.length), (3, .int .i64 m), (8, .bool true), (9, .bool true)])
    (fun _ => h) (fun _ => True) (fun _ => 0) () ?_ rfl trivial Ty.mixed (by kernel_rfl) ?_
  · simp (disch := omega) only [go_sem, seval]
  rintro _ _
  simp (disch := omega) only [go_sem, seval]
  refine aIf.pos (by omega) ?_
  simp (disch := omega) only [go_sem, seval]
  refine ACalls.then (isort_calls Γ i c T l pad _ hi (by omega)) ?_
  rintro _ _ rfl
  simp (disch := omega) only [go_sem, seval]
theorem sort_calls (Γ : Nat → Option (List AV)) (i c : Nat) (T : TypeId) (l : List Int) (pad : List AV) (h : AH) (hi : h[i]? = some (.row (encI l ++ pad) T)) (hl : l.length ≤ 12) :
    ACalls Tryz.prog Γ 17 [.ms i 0 l.length c 1] h fun v h' => h' = h.set i (.row (encI (sortI l) ++ pad) T) := by
  refine acalls_code (rs := []) Tryz.func17 rfl rfl rfl rfl Ty.mixed (by kernel_rfl) ?_
  simp (disch := omega) only [go_sem, seval]
  rw [IntWalk.u64_in _ ⟨by omega, by omega⟩]
  refine ACalls.then (len_calls Γ _ _ (by omega) (by omega)) ?_
  rintro _ _ ⟨rfl, m, rfl⟩
  simp (disch := omega) only [go_sem, seval]
  refine ACalls.then (pdq_calls Γ i c T l pad m _ hi hl) ?_
  rintro _ _ rfl
  simp (disch := omega) only [go_sem, seval]
end Go.Proofs.YtjdhgaflenhljaaGreatDoor.So

/- Lists of one's own as arrays, the library's sort of numbers at any length, entries of maps by numbers. No conditions. -/
set_option linter.unusedSimpArgs false
set_option linter.unusedVariables false
namespace Go.Proofs.YtjdhgaflenhljaaGreatDoor.So
open Go Go.Proofs Go.Abs

theorem loose_I (l : List Int) : looseL (encI l) = encI l := looseL_maps _ (fun _ => by rw [loose]) l
theorem rb_I (n : Nat) (l : List Int) : RB n (.sl (encI l) .free) = True := eq_true (.sl' fun r hr => by
  obtain ⟨i, _, rfl⟩ := List.mem_map.1 hr; exact .int _ _)
theorem rowsOK_I (l : List Int) : RowsOK 1 (encI l) := RowsOK.int l
attribute [go_sem] loose_I rb_I
structure FlS where
  l : List Int
  own : Abs.Own
  j : AH
theorem len_mid {α : Type} {don r : List α} {x : α} {k : Nat} (h : (don ++ x :: r).length ≤ k) : don.length + 1 + r.length ≤ k := by simp at h; omega

/-- A list of one's own: nil, or an array with room behind it. -/
def OwnM (b : Nat) (j : AH) (T : TypeId) (v : AV) (xs : List AV) : Prop :=
  (v = .sl [] .full ∧ xs = []) ∨ ∃ q c pad, v = .ms (b + q) 0 xs.length c 1 ∧ j[q]? = some (.row (xs ++ pad) T) ∧ c = xs.length + pad.length ∧ ∀ a ∈ pad, a.isAgg = false
theorem OwnM.more {b : Nat} {j : AH} {T : TypeId} {v : AV} {xs : List AV} (h : OwnM b j T v xs) (k : AH) : OwnM b (j ++ k) T v xs := by
  rcases h with h | ⟨q, c, pad, h1, h2, h3⟩
  · exact .inl h
  · exact .inr ⟨q, c, pad, h1, by rw [List.getElem?_append_left (List.getElem?_eq_some_iff.1 h2).1]; exact h2, h3⟩
theorem flat_I (l : List Int) : flat (encI l) = encI l := by
  induction l with
  | nil => rfl
  | cons x l ih =>
    have : flat (.int .i64 x :: encI l) = .int .i64 x :: flat (encI l) := rfl
    rw [encI_cons, this, ih]
theorem splice_app {xs pad ys : List AV} (h : xs.length + ys.length ≤ xs.length + pad.length) : splice (xs ++ pad) (0 + xs.length * 1) ys = xs ++ ys ++ pad.drop ys.length := by
  rw [Nat.zero_add, Nat.mul_one]
  rcases ys with _ | ⟨y, _ | ⟨z, ys⟩⟩
  · simp [splice]
  · cases pad with
    | nil => exact absurd h (by simp)
    | cons p pad => simp [splice]
  · simp [splice]
theorem aApM_own {v x : AV} {xs ys : List AV} {h j : AH} {T : TypeId} {by_ : Nat} {z : List AV} {Q : AV → AH → Prop} (hv : OwnM h.length j T v xs) (hs : SrcIs x (h ++ j) ys) (hx : RowsOK 1 ys) (hf : flat ys = ys) (hne : ys ≠ [])
    (h63 : xs.length + ys.length ≤ 9223372036854775807) (hby : (xs.length + ys.length) * by_ ≤ 140737488355328) (H : ∀ v' j', OwnM h.length j' T v' (xs ++ ys) → j.length ≤ j'.length → Q v' (h ++ j')) : aApM (some (1, by_, z, T)) v x (h ++ j) Q := by
  refine ⟨ys, hs, hx, ?_⟩
  rcases hv with ⟨rfl, rfl⟩ | ⟨q, c, pad, rfl, h2, h3, h4⟩
  · refine ⟨by simpa using h63, by simpa using hby, fun e => absurd e hne, fun _ c hc => ?_⟩
    rw [hf, List.append_assoc]
    have := H (.ms (h ++ j).length 0 ys.length c 1) (j ++ [.row (ys ++ List.replicate ((c - ys.length) * 1) .top) T]) (.inr ⟨j.length, c, List.replicate (c - ys.length) .top, by simp, by simp, by simp; omega, fun a ha => by rw [List.eq_of_mem_replicate ha]; rfl⟩) (by simp)
    simpa using this
  · have hq := (List.getElem?_eq_some_iff.1 h2).1
    have hg : (h ++ j)[h.length + q]? = some (.row (xs ++ pad) T) := by rw [hget_add]; exact h2
    refine ⟨rfl, h63, hby, by omega, ?_⟩
    rw [hg]
    refine ⟨by simp; omega, fun hle => ?_, fun hlt c' hc' => ?_⟩
    · have := H (.ms (h.length + q) 0 (xs.length + ys.length) c 1) (j.set q (.row (xs ++ ys ++ pad.drop ys.length) T)) (.inr ⟨q, c, pad.drop ys.length, by simp, by simp [hq], by simp; omega, fun a ha => h4 a (List.mem_of_mem_drop ha)⟩) (by simp)
      rw [hset_add, hf]
      rw [show splice (xs ++ pad) (0 + xs.length * 1) ys = xs ++ ys ++ pad.drop ys.length from splice_app (by omega)]
      exact this
    · have := H (.ms (h ++ j).length 0 (xs.length + ys.length) c' 1) (j ++ [.row (xs ++ ys ++ List.replicate ((c' - (xs.length + ys.length)) * 1) .top) T]) (.inr ⟨j.length, c', List.replicate (c' - (xs.length + ys.length)) .top, by simp, by simp, by simp; omega, fun a ha => by rw [List.eq_of_mem_replicate ha]; rfl⟩) (by simp)
      rw [hf]
      simpa using this

theorem OwnM.shift {b : Nat} {k j : AH} {T : TypeId} {v : AV} {xs : List AV} (h : OwnM (b + k.length) j T v xs) : OwnM b (k ++ j) T v xs := by
  rcases h with h | ⟨q, c, pad, h1, h2, h3, h4⟩
  · exact .inl h
  · exact .inr ⟨k.length + q, c, pad, by rw [h1, Nat.add_assoc], by rw [hget_add]; exact h2, h3, h4⟩
theorem OwnM.src {H j : AH} {T : TypeId} {v : AV} {l : List Int} (h : OwnM H.length j T v (encI l)) : SrcIs v (H ++ j) (encI l) := by
  rcases h with ⟨rfl, h2⟩ | ⟨q, c, pad, rfl, h2, h3, h4⟩
  · exact h2
  · refine ⟨encI l ++ pad, T, by rw [hget_add]; exact h2, rfl, by simp, fun x hx => ?_, by simp⟩
    rw [List.drop_zero, List.take_left] at hx
    obtain ⟨n, _, rfl⟩ := List.mem_map.1 hx; rfl
/-- **The end of a function whose result may hold an array of its own**, a list from now on. -/
theorem ACalls.endM {P : Program} {Γ : Nat → Option (List AV)} {f : FuncId} {args : List AV} {h : AH} {R : AV → Prop} (H : ACalls P Γ f args h fun v h' => (∃ l, h' = h ++ l) ∧ ((RB h.length (loose v) ∧ R (loose v)) ∨ ∃ q cs T, h'[h.length + q]? = some (.row cs T) ∧ RB h.length (loose (fzV (h.length + q) cs v)) ∧ R (loose (fzV (h.length + q) cs v)))) :
    ACalls P Γ f args h fun v h' => h' = h ∧ R v := by
  refine ACalls.dropL ⟨H.1, fun G w vs hI hv => (H.2 G w vs hI hv).mono fun e w' hr => ?_⟩
  obtain ⟨v, G', av, h', k1, k2, k3, k4, ⟨l, rfl⟩, k5 | ⟨q, cs, T, e1, k5⟩⟩ := hr
  · exact ⟨v, G', av, _, k1, k2, k3, k4, ⟨l, rfl⟩, k5⟩
  · obtain ⟨b, vals, q1, q2, q3⟩ := k3.freeze e1 (Froze.set e1)
    exact ⟨v, _, _, _, k1, k2.trans q1, q2, q3 _ _ k4, ⟨l.set q .frozen, hset_add h l q .frozen⟩, k5⟩

theorem fz_own (i c : Nat) (l : List Int) (pad : List AV) (hc : l.length ≤ c) (hp : ∀ a ∈ pad, a.isAgg = false) : fzV i (encI l ++ pad) (.ms i 0 l.length c 1) = .sl (encI l) .free := by
  rw [fzV, if_pos, List.drop_zero, rowsOf_one _ _ (by simp [encI_len]), List.take_append_of_le_length (by simp [encI_len]), ← encI_len l, List.take_length]
  refine ⟨rfl, ?_⟩
  simp only [fzOK, Bool.and_eq_true, decide_eq_true_eq, bne_iff_ne, List.all_eq_true, Bool.not_eq_true', List.length_append, encI_len]
  refine ⟨⟨⟨by omega, hc⟩, by decide⟩, fun a ha => ?_⟩
  rcases List.mem_append.1 ha with ha | ha
  · obtain ⟨x, _, rfl⟩ := List.mem_map.1 ha; rfl
  · exact hp a ha

set_option maxRecDepth 100000 in
theorem isort0_calls (Γ : Nat → Option (List AV)) (o : Abs.Own) (h : AH) :
    ACalls Tryz.prog Γ 46 [.sl [] o, .int .i64 0, .int .i64 0] h fun v h' => h' = h := by
  refine acalls_code (rs := []) Tryz.func46 rfl rfl rfl rfl Ty.mixed (by kernel_rfl) ?_
  simp (disch := omega) only [go_sem, seval]
  refine awp_loopS (α := Unit) [2, 6] (fun s => [(2, .int .i64 0), (6, .int .i64 1)]) (fun s => h) (fun s => True) (fun _ => 0) () ?_ rfl trivial Ty.mixed (by kernel_rfl) ?_
  · simp (disch := omega) only [go_sem, seval]
  rintro _ _
  simp (disch := omega) only [go_sem, seval]
  first | (refine AWP.keep [] (aCode_ok Ty.mixed _ _ _ _ (by kernel_rfl) ?_); simp (disch := omega) only [go_sem, seval]) | skip
set_option maxRecDepth 100000 in
theorem pdq0_calls (Γ : Nat → Option (List AV)) (o : Abs.Own) (m : Int) (h : AH) :
    ACalls Tryz.prog Γ 36 [.sl [] o, .int .i64 0, .int .i64 0, .int .i64 m] h fun v h' => h' = h := by
  refine acalls_code (rs := []) Tryz.func36 rfl rfl rfl rfl Ty.mixed (by kernel_rfl) ?_
  simp (disch := omega) only [go_sem, seval]
  refine awp_loopS (α := Unit) [0, 1, 2, 3, 8, 9] (fun _ => [(0, .sl [] o), (1, .int .i64 0), (2, .int .i64 0), (3, .int .i64 m), (8, .bool true), (9, .bool true)])
    (fun _ => h) (fun _ => True) (fun _ => 0) () ?_ rfl trivial Ty.mixed (by kernel_rfl) ?_
  · simp (disch := omega) only [go_sem, seval]
  rintro _ _
  simp (disch := omega) only [go_sem, seval]
  refine ACalls.then (isort0_calls Γ o _) ?_
  rintro _ _ rfl
  simp (disch := omega) only [go_sem, seval]
set_option maxRecDepth 100000 in
theorem sort0_calls (Γ : Nat → Option (List AV)) (o : Abs.Own) (h : AH) :
    ACalls Tryz.prog Γ 17 [.sl [] o] h fun v h' => h' = h := by
  refine acalls_code (rs := []) Tryz.func17 rfl rfl rfl rfl Ty.mixed (by kernel_rfl) ?_
  simp (disch := omega) only [go_sem, seval]
  rw [IntWalk.u64_in _ ⟨by omega, by omega⟩]
  refine ACalls.then (len_calls Γ _ _ (by omega) (by omega)) ?_
  rintro _ _ ⟨rfl, m, rfl⟩
  simp (disch := omega) only [go_sem, seval]
  refine ACalls.then (pdq0_calls Γ o m _) ?_
  rintro _ _ rfl
  simp (disch := omega) only [go_sem, seval]
theorem mid_at (H j k : AH) (q : Nat) (hq : q < j.length) : (H ++ (j ++ k))[H.length + q]? = j[q]? := by
  rw [hget_add, List.getElem?_append_left hq]
theorem mid_set (H j k : AH) (q : Nat) (hq : q < j.length) (o : AObj) : (H ++ (j ++ k)).set (H.length + q) o = H ++ (j.set q o ++ k) := by
  rw [hset_add, List.set_append_left _ _ hq]
theorem sortM_calls (Γ : Nat → Option (List AV)) (H j k : AH) (T : TypeId) (v : AV) (l : List Int) (hv : OwnM H.length j T v (encI l)) (hl : l.length ≤ 12) :
    ACalls Tryz.prog Γ 17 [v] (H ++ (j ++ k)) fun _ h' => ∃ j', j'.length = j.length ∧ h' = H ++ (j' ++ k) ∧ OwnM H.length j' T v (encI (sortI l)) := by
  rcases hv with ⟨rfl, h0⟩ | ⟨q, c, pad, rfl, h2, h3, h4⟩
  · have hl0 : l = [] := by cases l with | nil => rfl | cons x r => simp [encI] at h0
    subst hl0
    exact (sort0_calls Γ .full _).mono fun v h' e => ⟨j, rfl, e, .inl ⟨rfl, rfl⟩⟩
  · have hq := (List.getElem?_eq_some_iff.1 h2).1
    rw [encI_len]
    refine (sort_calls Γ (H.length + q) c T l pad _ (by rw [mid_at _ _ _ _ hq]; exact h2) (by omega)).mono fun v h' e => ?_
    refine ⟨j.set q (.row (encI (sortI l) ++ pad) T), by simp, by rw [e, mid_set _ _ _ _ hq], .inr ⟨q, c, pad, ?_, by simp [hq], ?_, h4⟩⟩
    · rw [encI_len, (sortI_perm l).length_eq]
    · rw [h3, encI_len, encI_len, (sortI_perm l).length_eq]
/-- The numbers met so far. -/
def metF (ks : List Int) (seen : List Nat) : List Int := seen.map fun b => ks.getD b 0
theorem met_all {ks : List Int} {seen : List Nat} (h1 : seen.Nodup) (h2 : ∀ b ∈ seen, b < ks.length) (h3 : ∀ b, b < ks.length → b ∈ seen) : (metF ks seen).Perm ks := by
  have hp : seen.Perm (List.range ks.length) := by
    rw [List.perm_ext_iff_of_nodup h1 List.nodup_range]
    intro a
    rw [List.mem_range]
    exact ⟨h2 a, h3 a⟩
  refine (hp.map _).trans ?_
  have : (List.range ks.length).map (fun b => ks.getD b 0) = ks := by
    apply List.ext_getElem
    · simp
    · intro i h1 h2; simp at h1; simp [h1]
  rw [this]
theorem nodup_le : ∀ (a l : List Nat), a.Nodup → (∀ b ∈ a, b ∈ l) → a.length ≤ l.length
  | [], l, _, _ => by simp
  | x :: a, l, h, hm => by
    rw [List.nodup_cons] at h
    have hx := hm x (by simp)
    have := nodup_le a (l.erase x) h.2 fun b hb => (List.mem_erase_of_ne (fun e => by subst e; exact h.1 hb)).2 (hm b (by simp [hb]))
    rw [List.length_erase_of_mem hx] at this
    have := List.length_pos_of_mem hx
    simp; omega
theorem met_len {ks : List Int} {seen : List Nat} (h1 : seen.Nodup) (h2 : ∀ b ∈ seen, b < ks.length) : seen.length ≤ ks.length := by
  have := nodup_le seen (List.range ks.length) h1 (fun b hb => List.mem_range.2 (h2 b hb))
  simpa using this
def addK (n : Int) (ks : List Int) : List Int := if n ∈ ks then ks else ks ++ [n]
theorem mem_addK (n x : Int) (ks : List Int) : x ∈ addK n ks ↔ x ∈ ks ∨ x = n := by
  unfold addK
  split
  · rename_i h
    exact ⟨.inl, fun e => e.elim id fun e => by subst e; exact h⟩
  · simp
theorem addK_nodup {ks : List Int} (h : ks.Nodup) (n : Int) : (addK n ks).Nodup := by
  rw [addK]
  split
  · exact h
  · rename_i hn
    rw [List.nodup_append]
    refine ⟨h, by simp, fun a ha b hb e => ?_⟩
    rw [List.mem_singleton] at hb
    exact hn (by rw [← hb, ← e]; exact ha)
/-! ### Entries of a map by numbers -/
def entsA (f : Int → AV) : Nat → List Int → List (Nat × AV × AV)
  | _, [] => []
  | i, n :: r => (i, .int .i64 n, f n) :: entsA f (i + 1) r
theorem entsA_get (f : Int → AV) : ∀ (l : List Int) (i k : Nat), (entsA f i l)[k]? = (l[k]?).map fun n => (i + k, .int .i64 n, f n)
  | [], i, k => by simp [entsA]
  | n :: r, i, 0 => by simp [entsA]
  | n :: r, i, k + 1 => by
    rw [entsA, List.getElem?_cons_succ, List.getElem?_cons_succ, entsA_get f r (i + 1) k]
    congr 1
    funext x
    rw [show i + 1 + k = i + (k + 1) from by omega]
theorem entsA_app (f : Int → AV) (l r : List Int) (i : Nat) : entsA f i (l ++ r) = entsA f i l ++ entsA f (i + l.length) r := by
  induction l generalizing i with
  | nil => simp [entsA]
  | cons a l ih => simp [entsA, ih, Nat.add_assoc, Nat.add_comm 1]
theorem entsA_find (f : Int → AV) (p : Int) (l : List Int) (i : Nat) : (p ∈ l ∧ ∃ j, aFind (.int .i64 p) (entsA f i l) = some (some j) ∧ l[j]? = some p) ∨ (p ∉ l ∧ aFind (.int .i64 p) (entsA f i l) = some none) := by
  induction l generalizing i with
  | nil => exact .inr ⟨by simp, rfl⟩
  | cons a r ih =>
    by_cases ha : p = a
    · subst ha
      exact .inl ⟨by simp, 0, by simp [entsA, aFind], rfl⟩
    · rcases ih (i + 1) with ⟨h1, j, h2, h3⟩ | ⟨h1, h2⟩
      · exact .inl ⟨by simp [h1], j + 1, by simp [entsA, aFind, ha, h2], by simpa using h3⟩
      · exact .inr ⟨by simp [ha, h1], by simp [entsA, aFind, ha, h2]⟩
theorem look_entsA (f : Int → AV) (p : Int) (l : List Int) (i c : Nat) (z : AV) (K : AV → Prop) : aLkO false z (.int .i64 p) (some (.map (entsA f i l) c)) K = K (if p ∈ l then f p else z) := by
  unfold aLkO aLkF
  rcases entsA_find f p l i with ⟨h1, j, h2, h3⟩ | ⟨h1, h2⟩
  · have := entsA_get f l i j
    rw [h3] at this
    simp [h1, h2, this]
  · simp [h1, h2]
theorem entsA_congr {f f' : Int → AV} : ∀ (l : List Int) (i : Nat), (∀ x ∈ l, f' x = f x) → entsA f' i l = entsA f i l
  | [], _, _ => rfl
  | n :: r, i, h => by rw [entsA, entsA, h n (by simp), entsA_congr r (i + 1) fun x hx => h x (List.mem_cons_of_mem _ hx)]
theorem put_entsA {f f' : Int → AV} (p : Int) (ks : List Int) (hn : ks.Nodup) (hf : ∀ x, x ≠ p → f' x = f x) : (aFind (.int .i64 p) (entsA f 0 ks)).bind (putEnt (entsA f 0 ks) ks.length (.int .i64 p) (f' p)) = some (.map (entsA f' 0 (addK p ks)) (addK p ks).length) := by
  rcases entsA_find f p ks 0 with ⟨h1, j, h2, h3⟩ | ⟨h1, h2⟩
  · rw [h2, addK, if_pos h1]
    have hg := entsA_get f ks 0 j
    rw [h3] at hg
    simp only [Option.map_some] at hg
    simp only [Option.bind_some, putEnt, hg, Option.map_some]
    congr 2
    apply List.ext_getElem?
    intro k
    rw [List.getElem?_set, entsA_get f' ks 0 k]
    split
    · rename_i hk; subst hk
      rw [if_pos (List.getElem?_eq_some_iff.1 hg).1, h3]; rfl
    · rename_i hk
      rw [entsA_get]
      cases hx : ks[k]? with
      | none => rfl
      | some x =>
        have hxp : x ≠ p := fun e => by
          subst e
          obtain ⟨k1, k2⟩ := List.getElem?_eq_some_iff.1 hx
          obtain ⟨j1, j2⟩ := List.getElem?_eq_some_iff.1 h3
          have hnd := List.pairwise_iff_getElem.1 hn
          rcases Nat.lt_trichotomy j k with c | c | c
          · exact hnd j k j1 k1 c (j2.trans k2.symm)
          · exact hk c
          · exact hnd k j k1 j1 c (k2.trans j2.symm)
        simp [hf x hxp]
  · rw [h2, addK, if_neg h1]
    simp only [Option.bind_some, putEnt, entsA_app, entsA, List.length_append, List.length_cons, List.length_nil, Nat.zero_add]
    rw [entsA_congr ks 0 fun x hx => hf x fun e => h1 (e ▸ hx)]
theorem entsA_mem (f : Int → AV) (l : List Int) (e : Nat × AV × AV) (h : e ∈ entsA f 0 l) : ∃ b, b < l.length ∧ e = (b, .int .i64 (l.getD b 0), f (l.getD b 0)) := by
  obtain ⟨b, hb⟩ := List.getElem?_of_mem h
  rw [entsA_get] at hb
  obtain ⟨n, h1, rfl⟩ := Option.map_eq_some_iff.1 hb
  refine ⟨b, (List.getElem?_eq_some_iff.1 h1).1, ?_⟩
  rw [List.getD_eq_getElem?_getD, h1]; simp
theorem entsA_at (f : Int → AV) : ∀ (l : List Int) (i b : Nat), b < l.length → (entsA f i l).find? (·.1 == i + b) = some (i + b, .int .i64 (l.getD b 0), f (l.getD b 0))
  | [], _, _, h => by simp at h
  | n :: r, i, 0, h => by simp [entsA]
  | n :: r, i, b + 1, h => by
    rw [entsA, List.find?_cons_of_neg (by simp), show i + (b + 1) = i + 1 + b from by omega, entsA_at f r (i + 1) b (by simpa using h)]
    simp
end Go.Proofs.YtjdhgaflenhljaaGreatDoor.So

/- The library's maps.Keys, slices.Sorted. No conditions. -/
set_option linter.unusedSimpArgs false
set_option linter.unusedVariables false
namespace Go.Proofs.YtjdhgaflenhljaaGreatDoor.So
open Go Go.Proofs Go.Abs

theorem acalls_codeM {P : Program} {Γ : Nat → Option (List AV)} {h : AH} {f : FuncId} {fn : Func} {c : Code} {args : List AV} {rs : List ResultVar} {R : AV → AH → Prop} (hf : P.funcs[f]? = some fn) (hb : fn.body = some c) (hn : (fn.name == "runtime.NumGoroutine") = false)
    (hN : Nat.ble args.length fn.ntmps = true) (hM : Nat.ble fn.ntmps 1000000 = true) (hrs : fn.results = rs.toArray) (hm : P.follows .mixedOrders = true) (hc : codeOK fn.ntmps c = true) (H : aCode P Γ fn.ntmps c (endA P rs R) ((1000000, .tuple []) :: argsT 0 args) h) : ACalls P Γ f args h R :=
  acalls_of_awp hf hb hn hN hrs (AWP.mark (by simpa [Nat.ble_eq] using hM) (aCode_ok hm c _ _ _ hc H))
theorem encI_app2 (l m : List Int) : encI l ++ encI m = encI (l ++ m) := (encI_app l m).symm
def NoLp (j : AH) : Prop := ∀ ob ∈ j, ∀ st pe li, ob ≠ .loop st pe li
theorem NoLp.set {j : AH} (h : NoLp j) (q : Nat) (cs : List AV) (T : TypeId) : NoLp (j.set q (.row cs T)) := fun ob ho st pe li e => by
  rcases List.mem_or_eq_of_mem_set ho with ho | rfl
  · exact h ob ho st pe li e
  · cases e
theorem NoLp.snoc {j : AH} (h : NoLp j) (cs : List AV) (T : TypeId) : NoLp (j ++ [.row cs T]) := fun ob ho st pe li e => by
  rcases List.mem_append.1 ho with ho | ho
  · exact h ob ho st pe li e
  · rw [List.mem_singleton] at ho; subst ho; cases e
theorem aApM_noLp {v x : AV} {xs ys : List AV} {h j : AH} {T : TypeId} {by_ : Nat} {z : List AV} {Q : AV → AH → Prop} (hv : OwnM h.length j T v xs) (hj : NoLp j) (hs : SrcIs x (h ++ j) ys) (hx : RowsOK 1 ys) (hf : flat ys = ys) (hne : ys ≠ [])
    (h63 : xs.length + ys.length ≤ 9223372036854775807) (hby : (xs.length + ys.length) * by_ ≤ 140737488355328) (H : ∀ v' j', OwnM h.length j' T v' (xs ++ ys) → NoLp j' → Q v' (h ++ j')) : aApM (some (1, by_, z, T)) v x (h ++ j) Q := by
  refine ⟨ys, hs, hx, ?_⟩
  rcases hv with ⟨rfl, rfl⟩ | ⟨q, c, pad, rfl, h2, h3, h4⟩
  · refine ⟨by simpa using h63, by simpa using hby, fun e => absurd e hne, fun _ c hc => ?_⟩
    rw [hf, List.append_assoc]
    have := H (.ms (h ++ j).length 0 ys.length c 1) (j ++ [.row (ys ++ List.replicate ((c - ys.length) * 1) .top) T]) (.inr ⟨j.length, c, List.replicate (c - ys.length) .top, by simp, by simp, by simp; omega, fun a ha => by rw [List.eq_of_mem_replicate ha]; rfl⟩) (hj.snoc _ _)
    simpa using this
  · have hq := (List.getElem?_eq_some_iff.1 h2).1
    have hg : (h ++ j)[h.length + q]? = some (.row (xs ++ pad) T) := by rw [hget_add]; exact h2
    refine ⟨rfl, h63, hby, by omega, ?_⟩
    rw [hg]
    refine ⟨by simp; omega, fun hle => ?_, fun hlt c' hc' => ?_⟩
    · have := H (.ms (h.length + q) 0 (xs.length + ys.length) c 1) (j.set q (.row (xs ++ ys ++ pad.drop ys.length) T)) (.inr ⟨q, c, pad.drop ys.length, by simp, by simp [hq], by simp; omega, fun a ha => h4 a (List.mem_of_mem_drop ha)⟩) (hj.set _ _ _)
      rw [hset_add, hf]
      rw [show splice (xs ++ pad) (0 + xs.length * 1) ys = xs ++ ys ++ pad.drop ys.length from splice_app (by omega)]
      exact this
    · have := H (.ms (h ++ j).length 0 (xs.length + ys.length) c' 1) (j ++ [.row (xs ++ ys ++ List.replicate ((c' - (xs.length + ys.length)) * 1) .top) T]) (.inr ⟨j.length, c', List.replicate (c' - (xs.length + ys.length)) .top, by simp, by simp, by simp; omega, fun a ha => by rw [List.eq_of_mem_replicate ha]; rfl⟩) (hj.snoc _ _)
      rw [hf]
      simpa using this
theorem noLp_mid {h X : AH} (hX : NoLp X) (Y : AH) (i : Nat) (ob : AObj) (e : (h ++ X)[i]? = some ob) : (h ++ Y)[i]? = some ob ∨ ∀ (st : LoopState) (pe : Option Code) (li : LI), ¬ ob = .loop st pe li := by
  by_cases hi : i < h.length
  · rw [List.getElem?_append_left hi] at e ⊢; exact .inl e
  · rw [List.getElem?_append_right (by omega)] at e
    exact .inr fun st pe li => hX ob (List.mem_of_getElem? e) st pe li
structure CkS where
  seen : List Nat
  v : AV
  j : AH
set_option maxRecDepth 100000 in
theorem keysS_calls (Γ : Nat → Option (List AV)) (M : Nat) (h : AH) :
    ACalls Tryz.prog Γ 32 [.map (some M)] h fun v h' => h' = h ++ [.row [.map (some M)] 69] ∧ v = .func 45 [] [.ptr (some (h.length, 0))] := by
  refine acalls_code (rs := [.tmp 2]) Tryz.func32 rfl rfl rfl rfl Ty.mixed (by kernel_rfl) ?_
  simp (disch := omega) only [go_sem, seval]
set_option maxHeartbeats 2000000 in
set_option maxRecDepth 100000 in
theorem appendSeqS_calls (Γ : Nat → Option (List AV)) (M c : Nat) (f : Int → AV) (ks : List Int) (h : AH) (hM : h[M]? = some (.map (entsA f 0 ks) ks.length)) (hc : h[c]? = some (.row [.map (some M)] 69)) (hl : ks.length ≤ 100000) :
    ACalls Tryz.prog Γ 68 [.sl [] .full, .func 45 [] [.ptr (some (c, 0))]] h fun v h' => ∃ j ls, h' = h ++ j ∧ ls.Perm ks ∧ OwnM h.length j 3 v (encI ls) := by
  have hM' := hget_of hM
  have hc' := hget_of hc
  refine acalls_codeM (rs := [.tmp 4]) Tryz.func68 rfl rfl rfl rfl rfl Ty.mixed (by kernel_rfl) ?_
  simp (disch := omega) only [go_sem, seval]
  refine AWP.keep [2, 4, 6, 1000000] ?_
  simp (disch := omega) only [go_sem, seval]
  refine awp_rangeFuncKL rfl (fun li hli => ?_)
  simp (disch := omega) only [go_sem, seval]
  refine acalls_code (rs := []) Tryz.func45 rfl rfl rfl rfl Ty.mixed (by kernel_rfl) ?_
  simp (disch := omega) only [go_sem, seval, hget_in, hc, hM]
  obtain ⟨K, hK⟩ : ∃ K : AV → AObj → List Nat → AH, ∀ v lo s, K v lo s = h ++ [.row [v] 25, lo, .iter (some M) ks.length s] := ⟨_, fun _ _ _ => rfl⟩
  have Kl : ∀ v lo s, (K v lo s).length = h.length + 3 := fun v lo s => by rw [hK]; simp
  have KM : ∀ v lo s (R : AH), (K v lo s ++ R)[M]? = some (.map (entsA f 0 ks) ks.length) := fun v lo s R => by rw [hK, List.append_assoc, hget_in _ hM']; exact hM
  have Kv : ∀ v lo s (R : AH), (K v lo s ++ R)[h.length]? = some (.row [v] 25) := fun v lo s R => by rw [hK]; simp
  have Ko : ∀ v lo s (R : AH), (K v lo s ++ R)[h.length + 1]? = some lo := fun v lo s R => by rw [hK]; simp
  have Ki : ∀ v lo s (R : AH), (K v lo s ++ R)[h.length + 2]? = some (.iter (some M) ks.length s) := fun v lo s R => by rw [hK]; simp
  have Sv : ∀ v lo s (R : AH) v', (K v lo s ++ R).set h.length (.row [v'] 25) = K v' lo s ++ R := fun v lo s R v' => by rw [hK, hK]; simp [hset_zero]
  have So : ∀ v lo s (R : AH) lo', (K v lo s ++ R).set (h.length + 1) lo' = K v lo' s ++ R := fun v lo s R lo' => by rw [hK, hK]; simp [hset_add]
  have Si : ∀ v lo s (R : AH) s', (K v lo s ++ R).set (h.length + 2) (.iter (some M) ks.length s') = K v lo s' ++ R := fun v lo s R s' => by rw [hK, hK]; simp [hset_add]
  refine awp_loopS (α := CkS) [0, 5] (fun _ => [(0, .yield (h.length + 1)), (5, .ptr (some (h.length + 2, 0)))]) (fun s => K s.v (.loop .ready none li) s.seen ++ s.j)
    (fun s => s.seen.Nodup ∧ (∀ b ∈ s.seen, b < ks.length) ∧ OwnM (h.length + 3) s.j 3 s.v (encI (metF ks s.seen)) ∧ NoLp s.j) (fun s => ks.length - s.seen.length) ⟨[], .sl [] .full, []⟩ ?_ ?_ ⟨.nil, by simp, .inl ⟨rfl, rfl⟩, fun _ h => by simp at h⟩ Ty.mixed (by kernel_rfl) ?_
  · simp (disch := omega) only [go_sem, seval]
  · simp [hK]
  rintro ⟨seen, v, j⟩ ⟨hn1, hn2, hv, hj⟩
  simp only at hn1 hn2 hv hj ⊢
  have hml := met_len hn1 hn2
  simp (disch := omega) only [go_sem, seval, Ki, KM]
  refine ⟨rfl, ?_, ?_, ?_⟩
  · intro e he
    obtain ⟨b, hb1, rfl⟩ := entsA_mem _ _ _ he
    simpa using hb1
  · intro hall
    have hall' : ∀ b, b < ks.length → b ∈ seen := fun b hb => by
      have hg := entsA_get f ks 0 b
      rw [List.getElem?_eq_getElem hb] at hg
      have := hall _ (List.mem_of_getElem? hg)
      simpa using this
    have hperm := met_all hn1 hn2 hall'
    simp (disch := omega) only [go_sem, seval]
    refine ⟨h ++ [.row [v] 25], .ready, none, .iter (some M) ks.length seen :: j, by rw [hK]; simp, by simp, ?_, by simp, ?_⟩
    · have hX : NoLp ([.row [v] 25, .dead, .iter (some M) ks.length seen] ++ j) := fun ob ho st pe li e => by
        rcases List.mem_append.1 ho with ho | ho
        · simp only [List.mem_cons, List.not_mem_nil, or_false] at ho
          rcases ho with rfl | rfl | rfl <;> cases e
        · exact hj ob ho st pe li e
      intro i ob e
      have e' : (h ++ ([.row [v] 25, .dead, .iter (some M) ks.length seen] ++ j))[i]? = some ob := by simpa using e
      exact noLp_mid hX _ i ob e'
    · simp (disch := omega) only [go_sem, seval]
      refine AWP.keep [2, 4, 1000000] (aCode_ok Ty.mixed _ _ _ _ (by kernel_rfl) ?_)
      simp (disch := omega) only [go_sem, seval]
      refine ⟨[.row [v] 25, .dead, .iter (some M) ks.length seen] ++ j, metF ks seen, by simp, hperm, ?_⟩
      exact OwnM.shift (k := [.row [v] 25, .dead, .iter (some M) ks.length seen]) hv
  · intro e he hns
    obtain ⟨b, hb1, rfl⟩ := entsA_mem _ _ _ he
    simp only at hns
    have hfd := entsA_at f ks 0 b hb1
    rw [Nat.zero_add] at hfd
    rw [Si]
    simp (disch := omega) only [go_sem, seval, Ki, KM, hfd]
    have hq1 : (seen ++ [b]).Nodup := by rw [List.nodup_append]; exact ⟨hn1, by simp, by simpa using fun a ha e => hns (by simpa [← e] using ha)⟩
    have hq2 : ∀ a ∈ seen ++ [b], a < ks.length := by
      intro a ha
      rcases List.mem_append.1 ha with ha | ha
      · exact hn2 a ha
      · simp at ha; omega
    have hq3 := met_len hq1 hq2
    refine ayield_L hli (Ko _ _ _ _) rfl rfl Ty.mixed (by kernel_rfl) (by kernel_rfl) ?_
    simp (disch := omega) only [go_sem, seval, Ko, So, Kv, Sv]
    refine ⟨by omega, rfl, by simp [AV.cells, AV.one], ?_⟩
    simp (disch := omega) only [go_sem, seval, Kl, List.append_assoc, List.length_append]
    refine aApM_noLp (xs := encI (metF ks seen)) (ys := encI [ks.getD b 0]) (by rw [Kl]; exact hv.more _) (hj.snoc _ _) ⟨[.int .i64 (ks.getD b 0)], 3, ?_, rfl, by simp, by simp [AV.one], rfl⟩ (rowsOK_I _) (flat_I _) (by simp [encI]) ?_ ?_ fun v' j' hv' hj' => ?_
    · rw [← Kl v (.loop .busy none li) (seen ++ [b]), hget_add]; simp [flat, AV.cells]
    · simp only [encI_len, metF, List.length_map, List.length_cons, List.length_nil]; omega
    · simp only [encI_len, metF, List.length_map, List.length_cons, List.length_nil]; omega
    rw [encI_app2] at hv'
    have hvc : v'.cells = [v'] := by rcases hv' with ⟨rfl, _⟩ | ⟨_, _, _, rfl, _⟩ <;> rfl
    have hvg : v'.good = true := by rcases hv' with ⟨rfl, _⟩ | ⟨_, _, _, rfl, _⟩ <;> rfl
    simp (disch := omega) only [go_sem, seval, hvc, hvg, Ko, So, Kv, Sv]
    refine roundS_next ⟨seen ++ [b], v', j'⟩ ?_ ⟨hq1, hq2, ?_, hj'⟩ ?_ rfl
    · simp only [List.length_append, List.length_cons, List.length_nil] at hq3 ⊢; omega
    · rw [Kl] at hv'; simpa [metF] using hv'
    · simp (disch := omega) only [go_sem, seval]
set_option maxRecDepth 100000 in
theorem collectS_calls (Γ : Nat → Option (List AV)) (M c : Nat) (f : Int → AV) (ks : List Int) (h : AH) (hM : h[M]? = some (.map (entsA f 0 ks) ks.length)) (hc : h[c]? = some (.row [.map (some M)] 69)) (hl : ks.length ≤ 100000) :
    ACalls Tryz.prog Γ 44 [.func 45 [] [.ptr (some (c, 0))]] h fun v h' => ∃ j ls, h' = h ++ j ∧ ls.Perm ks ∧ OwnM h.length j 3 v (encI ls) := by
  refine acalls_code (rs := [.tmp 2]) Tryz.func44 rfl rfl rfl rfl Ty.mixed (by kernel_rfl) ?_
  simp (disch := omega) only [go_sem, seval]
  refine ACalls.then (appendSeqS_calls Γ M c f ks _ hM hc hl) ?_
  rintro v _ ⟨j, ls, rfl, h1, h2⟩
  simp (disch := omega) only [go_sem, seval]
  exact ⟨j, ls, rfl, h1, h2⟩
set_option maxRecDepth 100000 in
theorem sortedS_calls (Γ : Nat → Option (List AV)) (M c : Nat) (f : Int → AV) (ks : List Int) (h : AH) (hM : h[M]? = some (.map (entsA f 0 ks) ks.length)) (hc : h[c]? = some (.row [.map (some M)] 69)) (hl : ks.length ≤ 12) :
    ACalls Tryz.prog Γ 31 [.func 45 [] [.ptr (some (c, 0))]] h fun v h' => h' = h ∧ v = .sl (encI (sortI ks)) .free := by
  refine ACalls.endM ?_
  refine acalls_code (rs := [.tmp 2]) Tryz.func31 rfl rfl rfl rfl Ty.mixed (by kernel_rfl) ?_
  simp (disch := omega) only [go_sem, seval]
  refine ACalls.then (collectS_calls Γ M c f ks _ hM hc (by omega)) ?_
  rintro v _ ⟨j, ls, rfl, hperm, hv⟩
  have hlen : ls.length ≤ 12 := by rw [hperm.length_eq]; exact hl
  have hsrt : sortI ls = sortI ks := sortI_of (sortI_le _) ((sortI_perm _).trans hperm)
  have hvc : v.cells = [v] := by rcases hv with ⟨rfl, _⟩ | ⟨_, _, _, rfl, _⟩ <;> rfl
  have hvg : v.good = true := by rcases hv with ⟨rfl, _⟩ | ⟨_, _, _, rfl, _⟩ <;> rfl
  simp (disch := omega) only [go_sem, seval]
  have hso := sortM_calls Γ h j [] 3 v _ hv (by omega)
  rw [List.append_nil] at hso
  refine ACalls.then hso ?_
  rintro _ _ ⟨j', hj', rfl, hv'⟩
  rw [List.append_nil]
  simp (disch := omega) only [go_sem, seval]
  rw [hsrt] at hv'
  rcases hv' with ⟨rfl, hnil⟩ | ⟨q, c, pad, rfl, hq, hc', hp⟩
  · left
    have : sortI ks = [] := by
      cases hm : sortI ks with
      | nil => rfl
      | cons a r => rw [hm] at hnil; simp [encI] at hnil
    rw [this]
    exact ⟨of_eq_true (rb_I _ []), rfl⟩
  · right
    refine ⟨q, encI (sortI ks) ++ pad, 3, hq, ?_⟩
    rw [encI_len] at hc'
    have hfo := fz_own (h.length + q) c (sortI ks) pad (by omega) hp
    rw [encI_len, hfo]
    simp (disch := omega) only [go_sem, seval]
end Go.Proofs.YtjdhgaflenhljaaGreatDoor.So
