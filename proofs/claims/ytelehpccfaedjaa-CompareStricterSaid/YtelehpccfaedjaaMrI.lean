/- Texts joined: SortA, SortB, Hol, RefB, RefC. No conditions. -/
import Derived.Test.YtelehpccfaedjaaMrF
import Derived.Test.YtelehpccfaedjaaMrG
import Derived.Test.YtelehpccfaedjaaMrH
/- The library's sort of few numbers: what it leaves. No conditions. -/
set_option linter.unusedSimpArgs false
set_option linter.unusedVariables false
namespace Go.Proofs.Ytelehpccfaedjaa
open Go Go.Proofs Go.Abs

def encI (l : List Int) : List AV := l.map fun i => .int .i64 i
theorem encI_app (l m : List Int) : encI (l ++ m) = encI l ++ encI m := by simp [encI]
theorem encI_cons (x : Int) (l : List Int) : encI (x :: l) = .int .i64 x :: encI l := rfl
theorem encI_len (l : List Int) : (encI l).length = l.length := by simp [encI]
def insI (x : Int) : List Int → List Int
  | [] => [x]
  | y :: r => if x ≤ y then x :: y :: r else y :: insI x r
def sortI : List Int → List Int
  | [] => []
  | x :: r => insI x (sortI r)
theorem insI_perm (x : Int) (l : List Int) : (insI x l).Perm (x :: l) := by
  induction l with
  | nil => exact .refl _
  | cons y r ih =>
    simp only [insI]
    split
    · exact .refl _
    · exact (ih.cons y).trans (.swap x y r)
theorem insI_le (x : Int) (l : List Int) (h : l.Pairwise (· ≤ ·)) : (insI x l).Pairwise (· ≤ ·) := by
  induction l with
  | nil => simp [insI]
  | cons y r ih =>
    obtain ⟨h1, h2⟩ := List.pairwise_cons.1 h
    simp only [insI]
    split
    · rename_i hxy
      refine List.pairwise_cons.2 ⟨fun z hz => ?_, h⟩
      rcases List.mem_cons.1 hz with rfl | hz
      · exact hxy
      · exact Int.le_trans hxy (h1 z hz)
    · rename_i hxy
      refine List.pairwise_cons.2 ⟨fun z hz => ?_, ih h2⟩
      rcases List.mem_cons.1 ((insI_perm x r).mem_iff.1 hz) with rfl | hz
      · omega
      · exact h1 z hz
theorem sortI_perm (l : List Int) : (sortI l).Perm l := by
  induction l with
  | nil => exact .refl _
  | cons x r ih => exact (insI_perm x _).trans (ih.cons x)
theorem sortI_le (l : List Int) : (sortI l).Pairwise (· ≤ ·) := by
  induction l with
  | nil => exact .nil
  | cons x r ih => exact insI_le x _ ih
theorem sortI_of {l s : List Int} (h1 : s.Pairwise (· ≤ ·)) (h2 : s.Perm l) : s = sortI l :=
  List.Perm.eq_of_pairwise (le := (· ≤ ·)) (fun a b _ _ h1 h2 => Int.le_antisymm h1 h2) h1 (sortI_le l) (h2.trans (sortI_perm l).symm)

/-! ### Cells of a list of numbers -/
theorem drop_at (l : List Int) (x : AV) (R : List AV) : (encI l ++ x :: R).drop l.length = x :: R := by
  have := List.drop_left (l₁ := encI l) (l₂ := x :: R)
  rwa [encI_len] at this
theorem drop_at1 (l : List Int) (x y : AV) (R : List AV) : (encI l ++ x :: y :: R).drop (l.length + 1) = y :: R := by
  rw [← encI_len l, List.drop_append]
  simp
theorem set_at (l : List Int) (x z : AV) (R : List AV) : (encI l ++ x :: R).set l.length z = encI l ++ z :: R := by
  rw [← encI_len l, List.set_append_right _ _ (Nat.le_refl _)]; simp
theorem set_at1 (l : List Int) (x y z : AV) (R : List AV) : (encI l ++ x :: y :: R).set (l.length + 1) z = encI l ++ x :: z :: R := by
  rw [← encI_len l, List.set_append_right _ _ (by omega)]; simp
set_option maxRecDepth 100000 in
theorem isnan_calls (Γ : Nat → Option (List AV)) (x : Int) (h : AH) : ACalls Try.prog Γ 155 [.int .i64 x] h fun v h' => h' = h ∧ v = .bool false := by
  refine ACalls.drop ?_
  refine acalls_code (rs := [.tmp 2]) Try.func155 rfl rfl rfl rfl Ty.mixed (by kernel_rfl) ?_
  simp (disch := omega) only [go_sem, seval]
theorem less_calls (Γ : Nat → Option (List AV)) (x y : Int) (h : AH) : ACalls Try.prog Γ 134 [.int .i64 x, .int .i64 y] h fun v h' => h' = h ∧ v = .bool (decide (x < y)) := by
  refine ACalls.drop ?_
  refine acalls_code (rs := [.tmp 4]) Try.func134 rfl rfl rfl rfl Ty.mixed (by kernel_rfl) ?_
  simp (disch := omega) only [go_sem, seval]
  refine ACalls.det (isnan_calls Γ x _) ?_
  simp (disch := omega) only [go_sem, seval]
theorem isort_calls (Γ : Nat → Option (List AV)) (i c : Nat) (T : TypeId) (l : List Int) (pad : List AV) (h : AH) (hi : h[i]? = some (.row (encI l ++ pad) T)) (hl : l.length ≤ 1000000) :
    ACalls Try.prog Γ 128 [.ms i 0 l.length c 1, .int .i64 0, .int .i64 l.length] h fun v h' => h' = h.set i (.row (encI (sortI l) ++ pad) T) := by
  refine acalls_code (rs := []) Try.func128 rfl rfl rfl rfl Ty.mixed (by kernel_rfl) ?_
  simp (disch := omega) only [go_sem, seval]
  refine awp_loopL (β := List Int) l.tail [0, 1, 2, 6] (fun don s => [(0, .ms i 0 l.length c 1), (1, .int .i64 0), (2, .int .i64 l.length), (6, .int .i64 (don.length + 1))])
    (fun s => h.set i (.row (encI s ++ pad) T)) (fun don r s => ∃ s0, s = s0 ++ r ∧ s0.Pairwise (· ≤ ·) ∧ s0.length = min l.length (don.length + 1) ∧ s.Perm l) l ?_ ?_ ?_ Ty.mixed (by kernel_rfl) ?_ ?_
  · simp (disch := omega) only [go_sem, seval]
  · rw [hset_same hi]
  · cases l with
    | nil => exact ⟨[], rfl, .nil, by simp, .refl _⟩
    | cons a l => exact ⟨[a], rfl, by simp, by simp, .refl _⟩
  · rintro don x r s hx ⟨s0, rfl, h1, h2, h3⟩
    have hlx : l.length = don.length + 1 + (r.length + 1) := by
      have h4 := congrArg List.length hx
      simp at h4
      cases l with
      | nil => simp at h4
      | cons a l => simp at h4 ⊢; omega
    have h5 : s0.length = don.length + 1 := by omega
    simp (disch := omega) only [go_sem, seval]
    refine aIf.pos (by omega) ?_
    simp (disch := omega) only [go_sem, seval]
    refine awp_loopS (α := List Int × List Int) [0, 1, 2, 6, 7] (fun s => [(0, .ms i 0 l.length c 1), (1, .int .i64 0), (2, .int .i64 l.length), (6, .int .i64 (don.length + 1)), (7, .int .i64 s.1.length)])
      (fun s => h.set i (.row (encI s.1 ++ .int .i64 x :: (encI s.2 ++ (encI r ++ pad))) T)) (fun s => s0 = s.1 ++ s.2 ∧ ∀ y ∈ s.2, x ≤ y) (fun s => s.1.length) (s0, []) ?_ ?_ ⟨by simp, by simp⟩ Ty.mixed (by kernel_rfl) ?_
    · simp (disch := omega) only [go_sem, seval]
      rw [h5]
      simp
    · rw [encI_app, encI_cons]
      simp [encI]
    rintro ⟨s1, s2⟩ ⟨rfl, h6⟩
    simp only at h6 h1 h2 h3 h5 ⊢
    rcases List.eq_nil_or_concat s1 with rfl | ⟨s1, y, rfl⟩
    · simp (disch := omega) only [go_sem, seval]
      refine AWP.keep [0, 1, 2, 6] (aCode_ok Ty.mixed _ _ _ _ (by kernel_rfl) ?_)
      simp (disch := omega) only [go_sem, seval]
      refine roundL_next (x :: s2 ++ r) ⟨x :: s2, rfl, ?_, ?_, ?_⟩ ?_ ?_
      · exact List.pairwise_cons.2 ⟨fun y hy => h6 y hy, by simpa using h1⟩
      · simp at h5 ⊢; omega
      · refine List.Perm.trans ?_ h3
        simpa using (List.perm_middle (a := x) (l₁ := s2) (l₂ := r)).symm
      · simp (disch := omega) only [go_sem, seval, List.length_append]
      · rw [encI_app, encI_cons]; simp [encI]
    · rw [List.concat_eq_append] at *
      have hc : (encI (s1 ++ [y]) ++ AV.int .i64 x :: (encI s2 ++ (encI r ++ pad))) = encI s1 ++ .int .i64 y :: .int .i64 x :: (encI s2 ++ (encI r ++ pad)) := by rw [encI_app]; simp [encI]
      rw [hc]
      have hk : i < h.length := (List.getElem?_eq_some_iff.1 hi).1
      simp (disch := omega) only [go_sem, seval, List.length_append, List.getElem?_set_self hk]
      refine aIf.pos (by omega) ?_
      have ix1 : ((s1.length : Int) + 1).toNat = s1.length + 1 := by omega
      have hll : s1.length + 1 + s2.length = don.length + 1 := by simp at h5; omega
      simp (disch := omega) only [go_sem, seval, List.length_append, List.getElem?_set_self hk, ix1, Nat.zero_add, Nat.mul_one, drop_at, drop_at1]
      refine ⟨by omega, by omega, by omega, ?_⟩
      refine aCallF.intro (fun _ => less_calls Γ x y _) ?_
      simp (disch := omega) only [go_sem, seval]
      refine aIf.intro (fun h8 => ?_) (fun h8 => ?_) <;> simp (disch := omega) only [go_sem, seval]
      · simp (disch := omega) only [go_sem, seval, List.length_append, List.getElem?_set_self hk, ix1, Nat.zero_add, Nat.mul_one, drop_at, drop_at1, List.set_set, set_at, set_at1, encI_len]
        refine ⟨by omega, by omega, by omega, by omega, by omega, by omega, by omega, by omega, ?_⟩
        refine roundS_next (s1, y :: s2) (by simp) ⟨by simp, ?_⟩ ?_ ?_
        · intro z hz
          rcases List.mem_cons.1 hz with rfl | hz
          · omega
          · exact h6 z hz
        · simp (disch := omega) only [go_sem, seval, List.length_append]
        · simp [encI]
      · refine AWP.keep [0, 1, 2, 6] (aCode_ok Ty.mixed _ _ _ _ (by kernel_rfl) ?_)
        simp (disch := omega) only [go_sem, seval]
        refine roundL_next (s1 ++ y :: x :: s2 ++ r) ⟨s1 ++ y :: x :: s2, rfl, ?_, ?_, ?_⟩ ?_ ?_
        · rw [List.append_assoc, List.pairwise_append] at h1
          obtain ⟨k1, k2, k3⟩ := h1
          simp only [List.cons_append, List.nil_append, List.pairwise_cons] at k2
          rw [List.pairwise_append]
          refine ⟨k1, ?_, ?_⟩
          · simp only [List.pairwise_cons, List.mem_cons]
            refine ⟨?_, h6, k2.2⟩
            rintro z (rfl | hz)
            · omega
            · exact k2.1 z hz
          · intro a ha b hb
            have e1 := k3 a ha y (by simp)
            rcases List.mem_cons.1 hb with rfl | hb
            · exact e1
            rcases List.mem_cons.1 hb with rfl | hb
            · omega
            · exact k3 a ha b (by simp [hb])
        · simp at h5 ⊢; omega
        · refine List.Perm.trans ?_ h3
          simp only [List.append_assoc, List.cons_append, List.nil_append]
          refine List.Perm.append_left s1 (List.Perm.cons y ?_)
          exact (List.perm_middle (a := x) (l₁ := s2) (l₂ := r)).symm
        · simp (disch := omega) only [go_sem, seval, List.length_append]
        · simp [encI]
  · rintro s ⟨s0, rfl, h1, h2, h3⟩
    simp (disch := omega) only [go_sem, seval]
    refine aIf.neg (by cases l <;> simp) ?_
    simp (disch := omega) only [go_sem, seval]
    rw [List.append_nil] at h3
    rw [sortI_of h1 h3]
end Go.Proofs.Ytelehpccfaedjaa

/- The library's sort of at most twelve numbers; copies; deleting. No conditions. -/
set_option linter.unusedSimpArgs false
set_option linter.unusedVariables false
namespace Go.Proofs.Ytelehpccfaedjaa
open Go Go.Proofs Go.Abs

theorem byte_at {s : ByteArray} {k : Nat} (h : k < s.size) : ∃ b, s[k]? = some b := ⟨s[k], by simp [h]⟩
set_option maxRecDepth 100000 in
theorem len64_calls (Γ : Nat → Option (List AV)) (n : Int) (h : AH) (h0 : 0 ≤ n) (h1 : n ≤ 200) : ACalls Try.prog Γ 138 [.int .u64 n] h fun v h' => h' = h ∧ ∃ m, v = .int .i64 m := by
  refine ACalls.drop ?_
  refine acalls_code (rs := [.tmp 2]) Try.func138 rfl rfl rfl rfl Ty.mixed (by kernel_rfl) ?_
  simp (disch := omega) only [go_sem, seval]
  refine aIf.neg (by omega) ?_
  simp (disch := omega) only [go_sem, seval]
  refine aIf.neg (by omega) ?_
  simp (disch := omega) only [go_sem, seval]
  refine aIf.neg (by omega) ?_
  simp (disch := omega) only [go_sem, seval]
  rw [IntWalk.u8_in n ⟨h0, by omega⟩]
  refine Exists.imp (p := fun b => _ = some b) (fun b hb => ⟨hb, _, rfl⟩) (byte_at ?_)
  exact Nat.lt_of_lt_of_le (m := 256) (by omega) (by decide +kernel)
theorem len_calls (Γ : Nat → Option (List AV)) (n : Int) (h : AH) (h0 : 0 ≤ n) (h1 : n ≤ 200) : ACalls Try.prog Γ 113 [.int .u64 n] h fun v h' => h' = h ∧ ∃ m, v = .int .i64 m := by
  refine ACalls.drop ?_
  refine acalls_code (rs := [.tmp 2]) Try.func113 rfl rfl rfl rfl Ty.mixed (by kernel_rfl) ?_
  simp (disch := omega) only [go_sem, seval]
  refine ACalls.then (len64_calls Γ n _ h0 h1) ?_
  rintro _ _ ⟨rfl, m, rfl⟩
  simp (disch := omega) only [go_sem, seval]
  exact ⟨m, rfl⟩
theorem pdq_calls (Γ : Nat → Option (List AV)) (i c : Nat) (T : TypeId) (l : List Int) (pad : List AV) (m : Int) (h : AH) (hi : h[i]? = some (.row (encI l ++ pad) T)) (hl : l.length ≤ 12) :
    ACalls Try.prog Γ 112 [.ms i 0 l.length c 1, .int .i64 0, .int .i64 l.length, .int .i64 m] h fun v h' => h' = h.set i (.row (encI (sortI l) ++ pad) T) := by
  refine acalls_code (rs := []) Try.func112 rfl rfl rfl rfl Ty.mixed (by kernel_rfl) ?_
  simp (disch := omega) only [go_sem, seval]
  refine awp_loopS (α := Unit) [0, 1, 2, 3, 8, 9] (fun _ => [(0, .ms i 0 l.length c 1), (1, .int .i64 0), (2, .int .i64 l.length), (3, .int .i64 m), (8, .bool true), (9, .bool true)])
    (fun _ => h) (fun _ => True) (fun _ => 0) () ?_ rfl trivial Ty.mixed (by kernel_rfl) ?_
  · simp (disch := omega) only [go_sem, seval]
  rintro _ _
  simp (disch := omega) only [go_sem, seval]
  refine aIf.pos (by omega) ?_
  simp (disch := omega) only [go_sem, seval]
  refine ACalls.then (isort_calls Γ i c T l pad _ hi (by omega)) ?_
  rintro _ _ rfl
  simp (disch := omega) only [go_sem, seval]
theorem sort_calls (Γ : Nat → Option (List AV)) (i c : Nat) (T : TypeId) (l : List Int) (pad : List AV) (h : AH) (hi : h[i]? = some (.row (encI l ++ pad) T)) (hl : l.length ≤ 12) :
    ACalls Try.prog Γ 80 [.ms i 0 l.length c 1] h fun v h' => h' = h.set i (.row (encI (sortI l) ++ pad) T) := by
  refine acalls_code (rs := []) Try.func80 rfl rfl rfl rfl Ty.mixed (by kernel_rfl) ?_
  simp (disch := omega) only [go_sem, seval]
  rw [IntWalk.u64_in _ ⟨by omega, by omega⟩]
  refine ACalls.then (len_calls Γ _ _ (by omega) (by omega)) ?_
  rintro _ _ ⟨rfl, m, rfl⟩
  simp (disch := omega) only [go_sem, seval]
  refine ACalls.then (pdq_calls Γ i c T l pad m _ hi hl) ?_
  rintro _ _ rfl
  simp (disch := omega) only [go_sem, seval]
end Go.Proofs.Ytelehpccfaedjaa

/- Holds, of formulas and people. No conditions. -/
set_option linter.unusedSimpArgs false
set_option linter.unusedVariables false
namespace Go.Proofs.Ytelehpccfaedjaa
open Go Go.Proofs Go.Abs

theorem loose_G : ∀ g : Gt, loose (encG g) = encG g
  | .mk p n l => by
    have : looseL (l.map encG) = l.map encG := by
      rw [looseL_map, List.map_map]
      exact List.map_congr_left fun x hx => loose_G x
    rw [encG_mk]; simp only [loose, looseL, this]
theorem loose_Gs (l : List Gt) : looseL (l.map encG) = l.map encG := looseL_maps _ loose_G l
theorem rb_G (k : Nat) : ∀ g : Gt, RB k (encG g)
  | .mk p n l => by
    rw [encG_mk]
    refine .agg' (RBs.cons (.int _ _) (RBs.cons (.int _ _) (RBs.cons (.sl' fun r hr => ?_) (RBs.nil _))))
    obtain ⟨x, hx, rfl⟩ := List.mem_map.1 hr
    exact rb_G k x
theorem rb_Gs (k : Nat) (l : List Gt) : RB k (.sl (l.map encG) .free) = True := eq_true (.sl' fun r hr => by
  obtain ⟨x, hx, rfl⟩ := List.mem_map.1 hr
  exact rb_G k x)
theorem rb_G' (k : Nat) (g : Gt) : RB k (encG g) = True := eq_true (rb_G k g)
attribute [go_sem] loose_G loose_Gs rb_Gs rb_G'

/-! ### Holds -/
def ascF : Int → List Int → Bool
  | _, [] => true
  | last, n :: r => decide (last < n) && decide (n < 64) && ascF n r
def lastOf : List Int → Int
  | [] => -1
  | l => l.getLastD (-1)
def holdsR (g : Gt) (who : List Int) : Bool × Int :=
  if checkF g = 0 then (if ascF (-1) who then (holdsF (fun p => decide (p ∈ who)) g, 0) else (false, 1)) else (false, checkF g)
def encR (r : Bool × Int) : AV := .tuple [.bool r.1, .int .i64 r.2]

theorem find_new (l : List Int) (i : Nat) (n : Int) (h : ∀ m ∈ l, m < n) : aFind (.int .i64 n) (entsFrom i l) = some none := by
  rcases find_ents n l i with ⟨h1, _⟩ | ⟨_, h2⟩
  · have := h n h1; omega
  · exact h2

theorem checkF_right {g : Gt} (h : checkF g = 0) : rightF g = true := by
  unfold checkF at h
  split at h
  · omega
  · split at h
    · assumption
    · omega

set_option maxRecDepth 100000 in
theorem Holds_calls (Γ : Nat → Option (List AV)) (g : Gt) (who : List Int) (h : AH) (hs : Sh g) (hw : who.length ≤ 9223372036854775807) :
    ACalls Try.prog Γ 34 [encG g, .sl (encI who) .free] h fun v h' => h' = h ∧ v = encR (holdsR g who) := by
  refine ACalls.drop ?_
  refine acalls_code (rs := [.tmp 4, .tmp 5]) Try.func34 rfl rfl rfl rfl Ty.mixed (by kernel_rfl) ?_
  simp (disch := omega) only [go_sem, seval]
  refine ACalls.det (check_calls Γ g _ hs) ?_
  simp (disch := omega) only [go_sem, seval]
  refine aIf.intro (fun h1 => ?_) (fun h1 => ?_) <;> simp (disch := omega) only [go_sem, seval]
  rotate_left
  · simp [holdsR, h1, encR]
  have hg := checkF_right h1
  refine awp_loopL (β := Int × List Int) who [19, 18, 17, 8, 7, 2] (fun don b => [(19, .int .i64 don.length), (18, .int .i64 who.length), (17, .sl (encI who) .free), (8, .int .i64 b.1), (7, .map (some (h.length + 1))), (2, .ptr (some (h.length, 0)))])
    (fun b => h ++ [.row (encG g).cells 54, .map (entsFrom 0 b.2) b.2.length]) (fun don rest b => b.2 = don ∧ (∀ m ∈ don, m ≤ b.1) ∧ ascF (-1) who = ascF b.1 rest) (-1, []) ?_ rfl ⟨rfl, by simp, rfl⟩ Ty.mixed (by kernel_rfl) ?_ ?_
  · simp (disch := omega) only [go_sem, seval, encI, List.length_map]
  · rintro don x r ⟨b, don⟩ rfl ⟨rfl, hb, hx⟩
    have hl3 := len_mid hw
    simp only at hb hx hl3 ⊢
    simp (disch := omega) only [go_sem, seval, encI, List.map_append, List.map_cons, List.length_append]
    refine aIf.pos (by omega) ?_
    simp (disch := omega) only [go_sem, seval]
    refine aIf.intro (fun h2 => ?_) (fun h2 => ?_) <;> simp (disch := omega) only [go_sem, seval]
    · simp [holdsR, h1, hx, ascF, encR, show ¬ b < x by omega]
    refine aIf.intro (fun h3 => ?_) (fun h3 => ?_) <;> simp (disch := omega) only [go_sem, seval]
    · simp [holdsR, h1, hx, ascF, encR, show ¬ x < 64 by omega]
    have hnew := find_new don 0 x (fun m hm => by have := hb m hm; omega)
    rw [hnew]
    simp (disch := omega) only [go_sem, seval, Option.bind_some, putEnt]
    refine roundL_next (x, don ++ [x]) ⟨rfl, fun m hm => ?_, ?_⟩ ?_ ?_
    · rcases List.mem_append.1 hm with hm | hm
      · have := hb m hm; simp only; omega
      · simp at hm; simp only; omega
    · rw [hx]; simp [ascF, show b < x by omega, show x < 64 by omega]
    · simp (disch := omega) only [go_sem, seval, List.length_append, encI, List.map_append, List.map_cons]
    · simp [entsFrom_app, entsFrom]
  · rintro ⟨b, w⟩ ⟨hw', hb, hx⟩
    simp only at hw' hx
    subst hw'
    simp (disch := omega) only [go_sem, seval, encI, List.length_map]
    refine AWP.keep [7, 2] (aCode_ok Ty.mixed _ _ _ _ (by kernel_rfl) ?_)
    simp (disch := omega) only [go_sem, seval]
    refine ACalls.det (holds_calls_k Γ w w.length _ g _ (h.length + 1) (Nat.lt_succ_self _) hs hg (by simp (disch := omega) only [go_sem, seval])) ?_
    simp (disch := omega) only [go_sem, seval]
    simp [holdsR, h1, hx, ascF, encR]

theorem loose_I (l : List Int) : looseL (encI l) = encI l := looseL_maps _ (fun _ => by rw [loose]) l
theorem rb_I (n : Nat) (l : List Int) : RB n (.sl (encI l) .free) = True := eq_true (.sl' fun r hr => by
  obtain ⟨i, _, rfl⟩ := List.mem_map.1 hr; exact .int _ _)
theorem rowsOK_I (l : List Int) : RowsOK 1 (encI l) := RowsOK.int l
attribute [go_sem] loose_I rb_I
end Go.Proofs.Ytelehpccfaedjaa

/- The reference's evaluation of formulas, and lists of people. No conditions. -/
set_option linter.unusedSimpArgs false
set_option linter.unusedVariables false
namespace Go.Proofs.Ytelehpccfaedjaa
open Go Go.Proofs Go.Abs

theorem encI_map (l : List Int) : (l.map fun i => AV.int IntKind.i64 i) = encI l := rfl
theorem encI_get (l : List Int) (k : Nat) (h : k < l.length) : (encI l)[k]? = some (.int .i64 l[k]) := by simp [encI, h]
/-! ### Has, People -/
/-! A list of people, in order. -/
theorem lastOf_app (l : List Int) (x : Int) : lastOf (l ++ [x]) = x := by
  have : (l ++ [x]).getLastD (-1) = x := by rw [List.getLastD_eq_getLast?, List.getLast?_append]; simp
  cases l with
  | nil => rfl
  | cons a l => exact this
theorem ascF_cons (p x : Int) (r : List Int) (h1 : p < x) (h2 : x < 64) : ascF p (x :: r) = ascF x r := by simp [ascF, h1, h2]
theorem ascF_not (p x : Int) (r : List Int) (h : ¬ p < x ∨ ¬ x < 64) : ascF p (x :: r) = false := by
  simp only [ascF]
  rcases h with h | h <;> simp [h]
set_option maxRecDepth 100000 in
theorem people_calls (Γ : Nat → Option (List AV)) (l : List Int) (h : AH) (hl : l.length ≤ 9223372036854775807) :
    ACalls Try.prog Γ 35 [.sl (encI l) .free] h fun v h' => h' = h ∧ v = .bool (ascF (-1) l) := by
  refine ACalls.drop ?_
  refine acalls_code (rs := [.tmp 2]) Try.func35 rfl rfl rfl rfl Ty.mixed (by kernel_rfl) ?_
  simp (disch := omega) only [go_sem, seval]
  refine awp_loopL (β := Unit) l [0, 3] (fun don _ => [(0, .sl (encI l) .free), (3, .int .i64 don.length)])
    (fun _ => h) (fun don r _ => ascF (-1) l = ascF (lastOf don) r ∧ ∀ x ∈ don, 0 ≤ x) () ?_ rfl ⟨rfl, by simp⟩ Ty.mixed (by kernel_rfl) ?_ ?_
  · simp (disch := omega) only [go_sem, seval]
  · rintro don x r _ rfl ⟨hn, hd⟩
    have hl3 := len_mid hl
    simp (disch := omega) only [go_sem, seval, encI, List.length_map, List.map_append, List.map_cons, List.length_append]
    refine aIf.pos (by omega) ?_
    simp (disch := omega) only [go_sem, seval, encI, List.length_map, List.map_append, List.map_cons, List.length_append]
    refine aIf.intro (fun h1 => ?_) (fun h1 => ?_) <;> simp (disch := omega) only [go_sem, seval]
    · rw [hn]
      rcases List.eq_nil_or_concat don with rfl | ⟨d, y, rfl⟩
      · rw [ascF_not _ _ _ (.inl (by simp only [lastOf]; omega))]
      · have := hd y (by simp)
        rw [List.concat_eq_append, lastOf_app, ascF_not _ _ _ (.inl (by omega))]
    refine aIf.intro (fun h2 => ?_) (fun h2 => ?_) <;> simp (disch := omega) only [go_sem, seval]
    · rw [hn, ascF_not _ _ _ (.inr (by omega))]
    rcases List.eq_nil_or_concat don with rfl | ⟨d, y, rfl⟩
    · simp (disch := omega) only [go_sem, seval, List.length_nil]
      refine roundL_next () ⟨?_, ?_⟩ ?_ rfl
      · rw [List.nil_append] at hn; rw [hn, lastOf_app, ascF_cons _ _ _ (by simp only [lastOf]; omega) (by omega)]
      · simp; omega
      · simp (disch := omega) only [go_sem, seval, List.length_append, encI, List.map_append, List.map_cons]
    · rw [List.concat_eq_append] at *
      rw [lastOf_app] at hn
      have hl4 : d.length + 1 + 1 + r.length ≤ 9223372036854775807 := by simp at hl3; omega
      refine aIf.pos (by simp) ?_
      have e1 : IntKind.i64.wrap (d.length : Int) = d.length := IntWalk.i64_in _ ⟨by omega, by omega⟩
      have e2 : (d.map (fun i => AV.int IntKind.i64 i) ++ [.int .i64 y] ++ .int .i64 x :: r.map fun i => AV.int IntKind.i64 i)[d.length]? = some (.int .i64 y) := by simp
      simp (disch := omega) only [go_sem, seval, List.length_append, List.map_append, List.map_cons, e1]
      rw [e2]
      have e3 : (d.map (fun i => AV.int IntKind.i64 i) ++ [.int .i64 y] ++ .int .i64 x :: r.map fun i => AV.int IntKind.i64 i)[d.length + 1]? = some (.int .i64 x) := by simp
      have e4 : ((d.length : Int) + 1).toNat = d.length + 1 := by omega
      simp (disch := omega) only [go_sem, seval, e4, e3]
      refine ⟨by omega, ?_⟩
      refine aIf.intro (fun h5 => ?_) (fun h5 => ?_) <;> simp (disch := omega) only [go_sem, seval]
      · rw [hn, ascF_not _ _ _ (.inl (by omega))]
      · refine roundL_next () ⟨?_, ?_⟩ ?_ rfl
        · rw [hn, lastOf_app, ascF_cons _ _ _ (by omega) (by omega)]
        · intro z hz
          rcases List.mem_append.1 hz with hz | hz
          · exact hd z hz
          · simp at hz; omega
        · simp (disch := omega) only [go_sem, seval, List.length_append, encI, List.map_append, List.map_cons]
  · rintro _ ⟨hn, hd⟩
    simp (disch := omega) only [go_sem, seval, encI, List.length_map]
    refine AWP.keep [] (aCode_ok Ty.mixed _ _ _ _ (by kernel_rfl) ?_)
    simp (disch := omega) only [go_sem, seval]
    simp [hn, ascF]

/-! ### holds -/
mutual
def rholdsF (W : Int → Bool) : Gt → Bool
  | .mk p n l => if 0 ≤ p then W p else decide (n ≤ (rcnt W l : Int))
def rcnt (W : Int → Bool) : List Gt → Nat
  | [] => 0
  | x :: r => (if rholdsF W x then 1 else 0) + rcnt W r
end
theorem rcnt_app (W : Int → Bool) (a b : List Gt) : rcnt W (a ++ b) = rcnt W a + rcnt W b := by
  induction a with
  | nil => simp [rcnt]
  | cons x r ih => simp only [List.cons_append, rcnt, ih]; omega
theorem rcnt_le (W : Int → Bool) (l : List Gt) : rcnt W l ≤ l.length := by
  induction l with
  | nil => simp [rcnt]
  | cons x r ih => simp only [rcnt, List.length_cons]; split <;> omega
end Go.Proofs.Ytelehpccfaedjaa

/- The reference's lists of people: gathered, put in order, without others. No conditions. -/
set_option linter.unusedSimpArgs false
set_option linter.unusedVariables false
namespace Go.Proofs.Ytelehpccfaedjaa
open Go Go.Proofs Go.Abs

mutual
theorem rholds_eq (W : Int → Bool) : ∀ g : Gt, rightF g = true → rholdsF W g = holdsF W g
  | .mk p n l, h => by
    by_cases hp : 0 ≤ p
    · simp [rholdsF, holdsF, hp]
    · simp only [rightF, if_neg hp, Bool.and_eq_true, decide_eq_true_eq] at h
      simp only [rholdsF, holdsF, if_neg hp]
      exact rcnt_eq W l n h.1.1.2 h.2
theorem rcnt_eq (W : Int → Bool) : ∀ (l : List Gt) (n : Int), 1 ≤ n → rightL l = true → decide (n ≤ (rcnt W l : Int)) = cntF W l n
  | [], n, hn, _ => by rw [rcnt, cntF]; exact decide_eq_false (by simp; omega)
  | x :: r, n, hn, h => by
    simp only [rightL, Bool.and_eq_true] at h
    have h1 := rholds_eq W x h.1
    simp only [rcnt, cntF, h1]
    cases holdsF W x with
    | false => simpa using rcnt_eq W r n hn h.2
    | true =>
      simp only [if_true]
      by_cases h2 : n - 1 = 0
      · rw [if_pos h2]; simp; omega
      · rw [if_neg h2, ← rcnt_eq W r (n - 1) (by omega) h.2]
        simp only [decide_eq_decide]; omega
end
def permF (g : Gt) (who : List Int) : Bool := (holdsR g who).1
/-! ### put, gather -/
def putF (n : Int) : List Int → List Int
  | [] => [n]
  | y :: r => if y < n then y :: putF n r else if y = n then y :: r else n :: y :: r
theorem putF_len (n : Int) (l : List Int) : (putF n l).length ≤ l.length + 1 := by
  induction l with
  | nil => simp [putF]
  | cons y r ih => simp only [putF]; split <;> (try split) <;> simp <;> omega
theorem putF_at (n : Int) : ∀ (a b : List Int), (∀ x ∈ a, x < n) → putF n (a ++ b) = a ++ putF n b
  | [], b, _ => rfl
  | x :: a, b, h => by simp only [List.cons_append, putF, if_pos (h x (by simp))]; rw [putF_at n a b fun y hy => h y (by simp [hy])]
theorem encI_take (l : List Int) (k : Nat) : (encI l).take k = encI (l.take k) := by simp [encI]
theorem encI_drop (l : List Int) (k : Nat) : (encI l).drop k = encI (l.drop k) := by simp [encI]
theorem encI_app2 (l m : List Int) : encI l ++ encI m = encI (l ++ m) := (encI_app l m).symm
theorem encI_snoc (l : List Int) (x : Int) : encI l ++ [.int .i64 x] = encI (l ++ [x]) := by simp [encI]
set_option maxRecDepth 100000 in
theorem put_calls (Γ : Nat → Option (List AV)) (l : List Int) (n : Int) (h : AH) (hl : l.length ≤ 1000000) :
    ACalls Try.prog Γ 119 [.sl (encI l) .free, .int .i64 n] h fun v h' => h' = h ∧ v = .sl (encI (putF n l)) .free := by
  refine ACalls.dropL ?_
  refine acalls_code (rs := [.tmp 4]) Try.func119 rfl rfl rfl rfl Ty.mixed (by kernel_rfl) ?_
  simp (disch := omega) only [go_sem, seval]
  refine awp_loopS (α := List Int × List Int) [0, 1, 5] (fun s => [(0, .sl (encI l) .free), (1, .int .i64 n), (5, .int .i64 s.1.length)]) (fun _ => h) (fun s => l = s.1 ++ s.2 ∧ ∀ x ∈ s.1, x < n) (fun s => s.2.length) ([], l) ?_ rfl ⟨rfl, by simp⟩ Ty.mixed (by kernel_rfl) ?_
  · simp (disch := omega) only [go_sem, seval]
  rintro ⟨a, b⟩ ⟨rfl, ha⟩
  simp only at ha ⊢
  cases b with
  | nil =>
    have hl' : a.length ≤ 1000000 := by simpa using hl
    simp (disch := omega) only [go_sem, seval, encI_len, List.append_nil]
    refine AWP.keep [0, 1, 5] (aCode_ok Ty.mixed _ _ _ _ (by kernel_rfl) ?_)
    simp (disch := omega) only [go_sem, seval, encI_len]
    refine ⟨rowsOK_I _, by omega, ?_⟩
    rw [show (encI (a)).take a.length = encI a from by simp [encI_take]]
    refine aAp_full (rowsOK_I []) (rowsOK_I _) (by simp [encI_len]; omega) (by simp [encI_len]; omega) ?_
    simp (disch := omega) only [go_sem, seval, List.nil_append, encI_len]
    refine aAp_arena (by simp (disch := omega) only [go_sem, seval, List.length_nil, Nat.zero_add, encI_len]) (rowsOK_I _) (rowsOK_I [n]) (by simp [encI_len]; omega) (by simp [encI_len]; omega) ?_
    rw [encI_snoc]
    simp (disch := omega) only [go_sem, seval, encI_len]
    refine ⟨rowsOK_I _, by simp, ?_⟩
    rw [show (encI (a)).drop a.length = encI ([] : List Int) from by simp [encI_drop]]
    refine aAp_arena (by simp (disch := omega) only [go_sem, seval, List.length_append, List.length_cons, List.length_nil, encI_len]) (rowsOK_I _) (rowsOK_I _) (by simp [encI_len]; omega) (by simp [encI_len]; omega) ?_
    rw [encI_app2]
    simp (disch := omega) only [go_sem, seval, encI_len]
    rw [show putF n a = putF n (a ++ []) from by simp, putF_at n a _ ha]
    simp [putF]
  | cons y b =>
    have hl' : a.length + 1 + b.length ≤ 1000000 := by simp at hl; omega
    have e1 : (encI (a ++ y :: b))[a.length]? = some (.int .i64 y) := by simp [encI]
    simp (disch := omega) only [go_sem, seval, encI_len, List.length_append, List.length_cons]
    refine aIf.pos (by omega) ?_
    simp (disch := omega) only [go_sem, seval, encI_len, List.length_append, List.length_cons, e1]
    refine aIf.intro (fun h1 => ?_) (fun h1 => ?_) <;> simp (disch := omega) only [go_sem, seval]
    · refine roundS_next (a ++ [y], b) (by simp) ⟨by simp, ?_⟩ ?_ rfl
      · intro x hx
        rcases List.mem_append.1 hx with hx | hx
        · exact ha x hx
        · simp at hx; omega
      · simp (disch := omega) only [go_sem, seval, List.length_append]
    · refine AWP.keep [0, 1, 5] (aCode_ok Ty.mixed _ _ _ _ (by kernel_rfl) ?_)
      simp (disch := omega) only [go_sem, seval, encI_len, List.length_append, List.length_cons]
      refine aIf.pos (by omega) ?_
      simp (disch := omega) only [go_sem, seval, encI_len, List.length_append, List.length_cons, e1]
      refine aIf.intro (fun h2 => ?_) (fun h2 => ?_) <;> simp (disch := omega) only [go_sem, seval]
      · rw [putF_at n a _ ha]; simp [putF, h1, h2]
      · refine ⟨rowsOK_I _, by simp [encI_len]; omega, ?_⟩
        rw [show (encI (a ++ y :: b)).take a.length = encI a from by simp [encI_take]]
        refine aAp_full (rowsOK_I []) (rowsOK_I _) (by simp [encI_len]; omega) (by simp [encI_len]; omega) ?_
        simp (disch := omega) only [go_sem, seval, List.nil_append, encI_len]
        refine aAp_arena (by simp (disch := omega) only [go_sem, seval, List.length_nil, Nat.zero_add, encI_len]) (rowsOK_I _) (rowsOK_I [n]) (by simp [encI_len]; omega) (by simp [encI_len]; omega) ?_
        rw [encI_snoc]
        simp (disch := omega) only [go_sem, seval, encI_len]
        refine ⟨rowsOK_I _, by simp; omega, ?_⟩
        rw [show (encI (a ++ y :: b)).drop a.length = encI (y :: b) from by simp [encI_drop]]
        refine aAp_arena (by simp (disch := omega) only [go_sem, seval, List.length_append, List.length_cons, List.length_nil, encI_len]) (rowsOK_I _) (rowsOK_I _) (by simp [encI_len]; omega) (by simp [encI_len]; omega) ?_
        rw [encI_app2]
        simp (disch := omega) only [go_sem, seval, encI_len]
        rw [putF_at n a _ ha]
        simp [putF, h1, h2]

mutual
def gathF : List Int → Gt → List Int
  | out, .mk p _ l => if 0 ≤ p then putF p out else gathL out l
def gathL : List Int → List Gt → List Int
  | out, [] => out
  | out, x :: r => gathL (gathF out x) r
end
theorem gathL_app : ∀ (a b : List Gt) (out : List Int), gathL out (a ++ b) = gathL (gathL out a) b
  | [], _, _ => rfl
  | x :: a, b, out => by simp only [List.cons_append, gathL]; exact gathL_app a b _
mutual
theorem gathF_len : ∀ (g : Gt) (out : List Int), ((gathF out g).length : Int) ≤ out.length + allLeaves g
  | .mk p n l, out => by
    have h1 := allLeaves_pos (.mk p n l)
    rw [gathF]
    split
    · have := putF_len p out; omega
    · have := gathL_len l out
      rw [allLeaves]
      split
      · rename_i he
        cases l with
        | nil => simp [gathL]; omega
        | cons x r => simp at he
      · exact this
theorem gathL_len : ∀ (l : List Gt) (out : List Int), ((gathL out l).length : Int) ≤ out.length + allLeavesL l
  | [], out => by simp [gathL, allLeavesL]
  | x :: r, out => by
    have h1 := gathF_len x out
    have h2 := gathL_len r (gathF out x)
    rw [gathL, allLeavesL]; omega
end
set_option maxRecDepth 100000 in
theorem gather_calls_k (Γ : Nat → Option (List AV)) : ∀ (k : Nat) (g : Gt) (out : List Int) (h : AH), SizeOf.sizeOf g < k → Sh g → (out.length : Int) + allLeaves g ≤ 1000000 →
    ACalls Try.prog Γ 92 [.sl (encI out) .free, encG g] h fun v h' => h' = h ∧ v = .sl (encI (gathF out g)) .free
  | 0, _, _, _, hk, _, _ => absurd hk (Nat.not_lt_zero _)
  | k + 1, .mk p n l, out, h, hsz, hs, hb => by
    refine ACalls.drop ?_
    have hp := allLeaves_pos (.mk p n l)
    refine acalls_code (rs := [.tmp 4]) Try.func92 rfl rfl rfl rfl Ty.mixed (by kernel_rfl) ?_
    simp only [encG_mk]
    simp (disch := omega) only [go_sem, seval]
    refine aIf.intro (fun h1 => ?_) (fun h1 => ?_) <;> simp (disch := omega) only [go_sem, seval]
    · refine ACalls.det (put_calls Γ out p _ (by omega)) ?_
      simp (disch := omega) only [go_sem, seval]
      simp [gathF, h1]
    have hl1 := hs.len
    have hl2 := hs.mem
    refine awp_loopL (β := Unit) l [3, 5, 6] (fun don _ => [(3, .ptr (some (h.length, 0))), (5, .sl (encI (gathL out don)) .free), (6, .int .i64 don.length)])
      (fun _ => h ++ [AObj.row [AV.int IntKind.i64 p, AV.int IntKind.i64 n, AV.sl (l.map encG) Own.free] 54]) (fun _ _ _ => True) () ?_ rfl trivial Ty.mixed (by kernel_rfl) ?_ ?_
    · simp (disch := omega) only [go_sem, seval]
      simp [gathL]
    · rintro don x r _ rfl _
      have hl3 := len_mid hl1
      simp (disch := omega) only [go_sem, seval, List.map_append, List.map_cons, List.length_append]
      refine aIf.pos (by omega) ?_
      simp (disch := omega) only [go_sem, seval]
      have e1 : allLeaves (.mk p n (don ++ x :: r)) = allLeavesL don + (allLeaves x + allLeavesL r) := by
        rw [allLeaves]
        split
        · rename_i he; simp at he
        · have : ∀ a b : List Gt, allLeavesL (a ++ b) = allLeavesL a + allLeavesL b := fun a b => by
            induction a with
            | nil => simp [allLeavesL]
            | cons y a ih => simp only [List.cons_append, allLeavesL, ih]; omega
          rw [this, allLeavesL]
      have e2 := gathL_len don out
      have e3 := allLeavesL_pos r
      refine ACalls.det (gather_calls_k Γ k x _ _ (mem_sz (by simp) hsz) (hl2 x (by simp)) (by omega)) ?_
      simp (disch := omega) only [go_sem, seval]
      refine roundL_next () trivial ?_ (by simp)
      simp (disch := omega) only [go_sem, seval, List.length_append]
      rw [gathL_app]; simp [gathL]
    · intro _ _
      simp (disch := omega) only [go_sem, seval, List.length_map]
      refine AWP.keep [5] (aCode_ok Ty.mixed _ _ _ _ (by kernel_rfl) ?_)
      simp (disch := omega) only [go_sem, seval]
      simp [gathF, h1]
def pplF (g : Gt) : List Int := gathF [] g
theorem pplF_len {g : Gt} (h : allLeaves g ≤ 1000) : (pplF g).length ≤ 1000 := by have := gathF_len g []; simp at this; unfold pplF; omega
set_option maxRecDepth 100000 in
theorem ppl_calls (Γ : Nat → Option (List AV)) (g : Gt) (h : AH) (hs : Sh g) (hb : allLeaves g ≤ 1000) :
    ACalls Try.prog Γ 62 [encG g] h fun v h' => h' = h ∧ v = .sl (encI (pplF g)) .free := by
  refine ACalls.drop ?_
  refine acalls_code (rs := [.tmp 2]) Try.func62 rfl rfl rfl rfl Ty.mixed (by kernel_rfl) ?_
  simp (disch := omega) only [go_sem, seval]
  refine ACalls.det (ACalls.ofLoose (gather_calls_k Γ _ g [] _ (Nat.lt_succ_self _) hs (by simp; omega)) (by simp (disch := omega) only [go_sem, seval, encI, List.map_nil])) ?_
  simp (disch := omega) only [go_sem, seval]
  rfl
def errF (g : Gt) : Int := if checkF g = 0 then (if 12 < ((pplF g).length : Int) then 2 else 0) else checkF g
theorem check_leaves {g : Gt} (h : checkF g = 0) : allLeaves g ≤ 256 := by
  unfold checkF at h
  split at h
  · omega
  · rename_i hc
    simp at hc
    have := leaves_all g 256 (by omega)
    omega
set_option maxRecDepth 100000 in
theorem err_calls (Γ : Nat → Option (List AV)) (g : Gt) (h : AH) (hs : Sh g) :
    ACalls Try.prog Γ 61 [encG g] h fun v h' => h' = h ∧ v = .int .i64 (errF g) := by
  refine ACalls.drop ?_
  refine acalls_code (rs := [.tmp 2]) Try.func61 rfl rfl rfl rfl Ty.mixed (by kernel_rfl) ?_
  simp (disch := omega) only [go_sem, seval]
  refine ACalls.det (refcheck_calls Γ g _ hs) ?_
  simp (disch := omega) only [go_sem, seval]
  refine aIf.intro (fun h1 => ?_) (fun h1 => ?_) <;> simp (disch := omega) only [go_sem, seval]
  rotate_left
  · simp [errF, h1]
  refine ACalls.det (ppl_calls Γ g _ hs (by have := check_leaves h1; omega)) ?_
  simp (disch := omega) only [go_sem, seval, encI_len]
  refine aIf.intro (fun h2 => ?_) (fun h2 => ?_) <;> simp (disch := omega) only [go_sem, seval]
  · simp [errF, h1, h2]
  · simp [errF, h1, h2]
end Go.Proofs.Ytelehpccfaedjaa
