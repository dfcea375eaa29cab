/- Texts joined: SortA, SortB, SrtA, AccShf, AccP, AccQ, AccM. No conditions. -/
import Derived.Test.YtelehpccfaedjaaMrF
import Derived.Test.YtelehpccfaedjaaMrG
import Derived.Shelf.Sort.Plain
import Derived.Test.YtelehpccfaedjaaProg
/- The library's sort of few numbers: what it leaves. No conditions. -/
set_option linter.unusedSimpArgs false
set_option linter.unusedVariables false
namespace Go.Proofs.Ytelehpccfaedjaa
open Go Go.Proofs Go.Abs

def encI (l : List Int) : List AV := l.map fun i => .int .i64 i
theorem encI_app (l m : List Int) : encI (l ++ m) = encI l ++ encI m := by simp [encI]
theorem encI_cons (x : Int) (l : List Int) : encI (x :: l) = .int .i64 x :: encI l := rfl
theorem encI_len (l : List Int) : (encI l).length = l.length := by simp [encI]
def insI (x : Int) : List Int → List Int
  | [] => [x]
  | y :: r => if x ≤ y then x :: y :: r else y :: insI x r
def sortI : List Int → List Int
  | [] => []
  | x :: r => insI x (sortI r)
theorem insI_perm (x : Int) (l : List Int) : (insI x l).Perm (x :: l) := by
  induction l with
  | nil => exact .refl _
  | cons y r ih =>
    simp only [insI]
    split
    · exact .refl _
    · exact (ih.cons y).trans (.swap x y r)
theorem insI_le (x : Int) (l : List Int) (h : l.Pairwise (· ≤ ·)) : (insI x l).Pairwise (· ≤ ·) := by
  induction l with
  | nil => simp [insI]
  | cons y r ih =>
    obtain ⟨h1, h2⟩ := List.pairwise_cons.1 h
    simp only [insI]
    split
    · rename_i hxy
      refine List.pairwise_cons.2 ⟨fun z hz => ?_, h⟩
      rcases List.mem_cons.1 hz with rfl | hz
      · exact hxy
      · exact Int.le_trans hxy (h1 z hz)
    · rename_i hxy
      refine List.pairwise_cons.2 ⟨fun z hz => ?_, ih h2⟩
      rcases List.mem_cons.1 ((insI_perm x r).mem_iff.1 hz) with rfl | hz
      · omega
      · exact h1 z hz
theorem sortI_perm (l : List Int) : (sortI l).Perm l := by
  induction l with
  | nil => exact .refl _
  | cons x r ih => exact (insI_perm x _).trans (ih.cons x)
theorem sortI_le (l : List Int) : (sortI l).Pairwise (· ≤ ·) := by
  induction l with
  | nil => exact .nil
  | cons x r ih => exact insI_le x _ ih
theorem sortI_of {l s : List Int} (h1 : s.Pairwise (· ≤ ·)) (h2 : s.Perm l) : s = sortI l :=
  List.Perm.eq_of_pairwise (le := (· ≤ ·)) (fun a b _ _ h1 h2 => Int.le_antisymm h1 h2) h1 (sortI_le l) (h2.trans (sortI_perm l).symm)

/-! ### Cells of a list of numbers -/
theorem drop_at (l : List Int) (x : AV) (R : List AV) : (encI l ++ x :: R).drop l.length = x :: R := by
  have := List.drop_left (l₁ := encI l) (l₂ := x :: R)
  rwa [encI_len] at this
theorem drop_at1 (l : List Int) (x y : AV) (R : List AV) : (encI l ++ x :: y :: R).drop (l.length + 1) = y :: R := by
  rw [← encI_len l, List.drop_append]
  simp
theorem set_at (l : List Int) (x z : AV) (R : List AV) : (encI l ++ x :: R).set l.length z = encI l ++ z :: R := by
  rw [← encI_len l, List.set_append_right _ _ (Nat.le_refl _)]; simp
theorem set_at1 (l : List Int) (x y z : AV) (R : List AV) : (encI l ++ x :: y :: R).set (l.length + 1) z = encI l ++ x :: z :: R := by
  rw [← encI_len l, List.set_append_right _ _ (by omega)]; simp
set_option maxRecDepth 100000 in
theorem isnan_calls (Γ : Nat → Option (List AV)) (x : Int) (h : AH) : ACalls Try.prog Γ 155 [.int .i64 x] h fun v h' => h' = h ∧ v = .bool false := by
  refine ACalls.drop ?_
  refine acalls_code (rs := [.tmp 2]) Try.func155 rfl rfl rfl rfl Ty.mixed (by kernel_rfl) ?_
  simp (disch := omega) only [go_sem, seval]
theorem less_calls (Γ : Nat → Option (List AV)) (x y : Int) (h : AH) : ACalls Try.prog Γ 134 [.int .i64 x, .int .i64 y] h fun v h' => h' = h ∧ v = .bool (decide (x < y)) := by
  refine ACalls.drop ?_
  refine acalls_code (rs := [.tmp 4]) Try.func134 rfl rfl rfl rfl Ty.mixed (by kernel_rfl) ?_
  simp (disch := omega) only [go_sem, seval]
  refine ACalls.det (isnan_calls Γ x _) ?_
  simp (disch := omega) only [go_sem, seval]
theorem isort_calls (Γ : Nat → Option (List AV)) (i c : Nat) (T : TypeId) (l : List Int) (pad : List AV) (h : AH) (hi : h[i]? = some (.row (encI l ++ pad) T)) (hl : l.length ≤ 1000000) :
    ACalls Try.prog Γ 128 [.ms i 0 l.length c 1, .int .i64 0, .int .i64 l.length] h fun v h' => h' = h.set i (.row (encI (sortI l) ++ pad) T) := by
  refine acalls_code (rs := []) Try.func128 rfl rfl rfl rfl Ty.mixed (by kernel_rfl) ?_
  simp (disch := omega) only [go_sem, seval]
  refine awp_loopL (β := List Int) l.tail [0, 1, 2, 6] (fun don s => [(0, .ms i 0 l.length c 1), (1, .int .i64 0), (2, .int .i64 l.length), (6, .int .i64 (don.length + 1))])
    (fun s => h.set i (.row (encI s ++ pad) T)) (fun don r s => ∃ s0, s = s0 ++ r ∧ s0.Pairwise (· ≤ ·) ∧ s0.length = min l.length (don.length + 1) ∧ s.Perm l) l ?_ ?_ ?_ Ty.mixed (by kernel_rfl) ?_ ?_
  · simp (disch := omega) only [go_sem, seval]
  · rw [hset_same hi]
  · cases l with
    | nil => exact ⟨[], rfl, .nil, by simp, .refl _⟩
    | cons a l => exact ⟨[a], rfl, by simp, by simp, .refl _⟩
  · rintro don x r s hx ⟨s0, rfl, h1, h2, h3⟩
    have hlx : l.length = don.length + 1 + (r.length + 1) := by
      have h4 := congrArg List.length hx
      simp at h4
      cases l with
      | nil => simp at h4
      | cons a l => simp at h4 ⊢; omega
    have h5 : s0.length = don.length + 1 := by omega
    simp (disch := omega) only [go_sem, seval]
    refine aIf.pos (by omega) ?_
    simp (disch := omega) only [go_sem, seval]
    refine awp_loopS (α := List Int × List Int) [0, 1, 2, 6, 7] (fun s => [(0, .ms i 0 l.length c 1), (1, .int .i64 0), (2, .int .i64 l.length), (6, .int .i64 (don.length + 1)), (7, .int .i64 s.1.length)])
      (fun s => h.set i (.row (encI s.1 ++ .int .i64 x :: (encI s.2 ++ (encI r ++ pad))) T)) (fun s => s0 = s.1 ++ s.2 ∧ ∀ y ∈ s.2, x ≤ y) (fun s => s.1.length) (s0, []) ?_ ?_ ⟨by simp, by simp⟩ Ty.mixed (by kernel_rfl) ?_
    · simp (disch := omega) only [go_sem, seval]
      rw [h5]
      simp
    · rw [encI_app, encI_cons]
      simp [encI]
    rintro ⟨s1, s2⟩ ⟨rfl, h6⟩
    simp only at h6 h1 h2 h3 h5 ⊢
    rcases List.eq_nil_or_concat s1 with rfl | ⟨s1, y, rfl⟩
    · simp (disch := omega) only [go_sem, seval]
      refine AWP.keep [0, 1, 2, 6] (aCode_ok Ty.mixed _ _ _ _ (by kernel_rfl) ?_)
      simp (disch := omega) only [go_sem, seval]
      refine roundL_next (x :: s2 ++ r) ⟨x :: s2, rfl, ?_, ?_, ?_⟩ ?_ ?_
      · exact List.pairwise_cons.2 ⟨fun y hy => h6 y hy, by simpa using h1⟩
      · simp at h5 ⊢; omega
      · refine List.Perm.trans ?_ h3
        simpa using (List.perm_middle (a := x) (l₁ := s2) (l₂ := r)).symm
      · simp (disch := omega) only [go_sem, seval, List.length_append]
      · rw [encI_app, encI_cons]; simp [encI]
    · rw [List.concat_eq_append] at *
      have hc : (encI (s1 ++ [y]) ++ AV.int .i64 x :: (encI s2 ++ (encI r ++ pad))) = encI s1 ++ .int .i64 y :: .int .i64 x :: (encI s2 ++ (encI r ++ pad)) := by rw [encI_app]; simp [encI]
      rw [hc]
      have hk : i < h.length := (List.getElem?_eq_some_iff.1 hi).1
      simp (disch := omega) only [go_sem, seval, List.length_append, List.getElem?_set_self hk]
      refine aIf.pos (by omega) ?_
      have ix1 : ((s1.length : Int) + 1).toNat = s1.length + 1 := by omega
      have hll : s1.length + 1 + s2.length = don.length + 1 := by simp at h5; omega
      simp (disch := omega) only [go_sem, seval, List.length_append, List.getElem?_set_self hk, ix1, Nat.zero_add, Nat.mul_one, drop_at, drop_at1]
      refine ⟨by omega, by omega, by omega, ?_⟩
      refine aCallF.intro (fun _ => less_calls Γ x y _) ?_
      simp (disch := omega) only [go_sem, seval]
      refine aIf.intro (fun h8 => ?_) (fun h8 => ?_) <;> simp (disch := omega) only [go_sem, seval]
      · simp (disch := omega) only [go_sem, seval, List.length_append, List.getElem?_set_self hk, ix1, Nat.zero_add, Nat.mul_one, drop_at, drop_at1, List.set_set, set_at, set_at1, encI_len]
        refine ⟨by omega, by omega, by omega, by omega, by omega, by omega, by omega, by omega, ?_⟩
        refine roundS_next (s1, y :: s2) (by simp) ⟨by simp, ?_⟩ ?_ ?_
        · intro z hz
          rcases List.mem_cons.1 hz with rfl | hz
          · omega
          · exact h6 z hz
        · simp (disch := omega) only [go_sem, seval, List.length_append]
        · simp [encI]
      · refine AWP.keep [0, 1, 2, 6] (aCode_ok Ty.mixed _ _ _ _ (by kernel_rfl) ?_)
        simp (disch := omega) only [go_sem, seval]
        refine roundL_next (s1 ++ y :: x :: s2 ++ r) ⟨s1 ++ y :: x :: s2, rfl, ?_, ?_, ?_⟩ ?_ ?_
        · rw [List.append_assoc, List.pairwise_append] at h1
          obtain ⟨k1, k2, k3⟩ := h1
          simp only [List.cons_append, List.nil_append, List.pairwise_cons] at k2
          rw [List.pairwise_append]
          refine ⟨k1, ?_, ?_⟩
          · simp only [List.pairwise_cons, List.mem_cons]
            refine ⟨?_, h6, k2.2⟩
            rintro z (rfl | hz)
            · omega
            · exact k2.1 z hz
          · intro a ha b hb
            have e1 := k3 a ha y (by simp)
            rcases List.mem_cons.1 hb with rfl | hb
            · exact e1
            rcases List.mem_cons.1 hb with rfl | hb
            · omega
            · exact k3 a ha b (by simp [hb])
        · simp at h5 ⊢; omega
        · refine List.Perm.trans ?_ h3
          simp only [List.append_assoc, List.cons_append, List.nil_append]
          refine List.Perm.append_left s1 (List.Perm.cons y ?_)
          exact (List.perm_middle (a := x) (l₁ := s2) (l₂ := r)).symm
        · simp (disch := omega) only [go_sem, seval, List.length_append]
        · simp [encI]
  · rintro s ⟨s0, rfl, h1, h2, h3⟩
    simp (disch := omega) only [go_sem, seval]
    refine aIf.neg (by cases l <;> simp) ?_
    simp (disch := omega) only [go_sem, seval]
    rw [List.append_nil] at h3
    rw [sortI_of h1 h3]
end Go.Proofs.Ytelehpccfaedjaa

/- The library's sort of at most twelve numbers; copies; deleting. No conditions. -/
set_option linter.unusedSimpArgs false
set_option linter.unusedVariables false
namespace Go.Proofs.Ytelehpccfaedjaa
open Go Go.Proofs Go.Abs

theorem byte_at {s : ByteArray} {k : Nat} (h : k < s.size) : ∃ b, s[k]? = some b := ⟨s[k], by simp [h]⟩
set_option maxRecDepth 100000 in
theorem len64_calls (Γ : Nat → Option (List AV)) (n : Int) (h : AH) (h0 : 0 ≤ n) (h1 : n ≤ 200) : ACalls Try.prog Γ 138 [.int .u64 n] h fun v h' => h' = h ∧ ∃ m, v = .int .i64 m := by
  refine ACalls.drop ?_
  refine acalls_code (rs := [.tmp 2]) Try.func138 rfl rfl rfl rfl Ty.mixed (by kernel_rfl) ?_
  simp (disch := omega) only [go_sem, seval]
  refine aIf.neg (by omega) ?_
  simp (disch := omega) only [go_sem, seval]
  refine aIf.neg (by omega) ?_
  simp (disch := omega) only [go_sem, seval]
  refine aIf.neg (by omega) ?_
  simp (disch := omega) only [go_sem, seval]
  rw [IntWalk.u8_in n ⟨h0, by omega⟩]
  refine Exists.imp (p := fun b => _ = some b) (fun b hb => ⟨hb, _, rfl⟩) (byte_at ?_)
  exact Nat.lt_of_lt_of_le (m := 256) (by omega) (by decide +kernel)
theorem len_calls (Γ : Nat → Option (List AV)) (n : Int) (h : AH) (h0 : 0 ≤ n) (h1 : n ≤ 200) : ACalls Try.prog Γ 113 [.int .u64 n] h fun v h' => h' = h ∧ ∃ m, v = .int .i64 m := by
  refine ACalls.drop ?_
  refine acalls_code (rs := [.tmp 2]) Try.func113 rfl rfl rfl rfl Ty.mixed (by kernel_rfl) ?_
  simp (disch := omega) only [go_sem, seval]
  refine ACalls.then (len64_calls Γ n _ h0 h1) ?_
  rintro _ _ ⟨rfl, m, rfl⟩
  simp (disch := omega) only [go_sem, seval]
  exact ⟨m, rfl⟩
theorem pdq_calls (Γ : Nat → Option (List AV)) (i c : Nat) (T : TypeId) (l : List Int) (pad : List AV) (m : Int) (h : AH) (hi : h[i]? = some (.row (encI l ++ pad) T)) (hl : l.length ≤ 12) :
    ACalls Try.prog Γ 112 [.ms i 0 l.length c 1, .int .i64 0, .int .i64 l.length, .int .i64 m] h fun v h' => h' = h.set i (.row (encI (sortI l) ++ pad) T) := by
  refine acalls_code (rs := []) Try.func112 rfl rfl rfl rfl Ty.mixed (by kernel_rfl) ?_
  simp (disch := omega) only [go_sem, seval]
  refine awp_loopS (α := Unit) [0, 1, 2, 3, 8, 9] (fun _ => [(0, .ms i 0 l.length c 1), (1, .int .i64 0), (2, .int .i64 l.length), (3, .int .i64 m), (8, .bool true), (9, .bool true)])
    (fun _ => h) (fun _ => True) (fun _ => 0) () ?_ rfl trivial Ty.mixed (by kernel_rfl) ?_
  · simp (disch := omega) only [go_sem, seval]
  rintro _ _
  simp (disch := omega) only [go_sem, seval]
  refine aIf.pos (by omega) ?_
  simp (disch := omega) only [go_sem, seval]
  refine ACalls.then (isort_calls Γ i c T l pad _ hi (by omega)) ?_
  rintro _ _ rfl
  simp (disch := omega) only [go_sem, seval]
theorem sort_calls (Γ : Nat → Option (List AV)) (i c : Nat) (T : TypeId) (l : List Int) (pad : List AV) (h : AH) (hi : h[i]? = some (.row (encI l ++ pad) T)) (hl : l.length ≤ 12) :
    ACalls Try.prog Γ 80 [.ms i 0 l.length c 1] h fun v h' => h' = h.set i (.row (encI (sortI l) ++ pad) T) := by
  refine acalls_code (rs := []) Try.func80 rfl rfl rfl rfl Ty.mixed (by kernel_rfl) ?_
  simp (disch := omega) only [go_sem, seval]
  rw [IntWalk.u64_in _ ⟨by omega, by omega⟩]
  refine ACalls.then (len_calls Γ _ _ (by omega) (by omega)) ?_
  rintro _ _ ⟨rfl, m, rfl⟩
  simp (disch := omega) only [go_sem, seval]
  refine ACalls.then (pdq_calls Γ i c T l pad m _ hi hl) ?_
  rintro _ _ rfl
  simp (disch := omega) only [go_sem, seval]
end Go.Proofs.Ytelehpccfaedjaa

/- The library's sort, whatever the length: from the shelf's contract to abstract values. It says nothing of any program; no conditions. -/
set_option linter.unusedSimpArgs false
set_option linter.unusedVariables false
namespace Go.Abs
open Go Go.RowKit Go.Sort Go.Shelf

theorem putCells_get {α : Type} [Inhabited α] (enc : α → Value) (d : Array α) (c : Array Value) (k : Nat) : (putCells enc 0 d c)[k]? = (c[k]?).map fun x => if k < d.size then enc d[k]! else x := by
  simp [putCells, Array.getElem?_mapIdx]
section
variable {Γ : Nat → Option (List AV)} {G : Gh} {h : AH} {w : World}
theorem Inv.sorted {α : Type} [Inhabited α] (enc : α → Value) (av : α → AV) (hI : Inv Γ G h w) {i b : Nat} {T : TypeId} {vals : Array Value} {cs pad : List AV} {d' : Array α} (hi : h[i]? = some (.row cs T)) (hρ : G.ρ i = some b)
    (hw : w.heap[b]? = some (.cells vals T (0, 0))) (hcs : VRs G cs vals) (hlen : cs.length = d'.size + pad.length) (hpad : ∀ j, cs[d'.size + j]? = pad[j]?) (hav : ∀ x ∈ d'.toList, VR G (av x) (enc x)) (n : Nat) (os : Array Obj) :
    Inv Γ G (h.set i (.row (d'.toList.map av ++ pad) T)) (grow (Go.Sort.putRow enc (Go.Sort.ahead w n) b 0 d') os) := by
  have hblk : (Go.Sort.putRow enc (Go.Sort.ahead w n) b 0 d').heap[b]? = some (.cells (putCells enc 0 d' vals) T (0, 0)) := by
    show ((Go.Sort.ahead w n).heap.modify b (onCells (putCells enc 0 d')))[b]? = _
    rw [Array.getElem?_modify, if_pos rfl, heap_ahead, hw]
    rfl
  have h1 : Inv Γ G (h.set i (.row (d'.toList.map av ++ pad) T)) (Go.Sort.putRow enc (Go.Sort.ahead w n) b 0 d') := by
    refine hI.write (w' := Go.Sort.putRow enc (Go.Sort.ahead w n) b 0 d') hρ ?_ rfl rfl rfl (fun k hk => ?_) (.row (d'.toList.map av ++ pad) T) ⟨b, _, hρ, hblk, ?_⟩ (fun D hD => ?_) (by rw [hw]; simp) (by rw [hi]; simp) (Nat.le_add_right _ _)
    · show ((Go.Sort.ahead w n).heap.modify b (onCells (putCells enc 0 d'))).size = _
      simp
    · show ((Go.Sort.ahead w n).heap.modify b (onCells (putCells enc 0 d')))[k]? = _
      rw [Array.getElem?_modify, if_neg (fun e => hk e.symm)]; rfl
    · refine ⟨by simp [putCells, ← hcs.1, hlen], fun j c e => ?_⟩
      rw [Array.getD_eq_getD_getElem?, putCells_get]
      by_cases hj : j < d'.size
      · rw [List.getElem?_append_left (by simpa using hj), List.getElem?_map] at e
        obtain ⟨x, hx, rfl⟩ := Option.map_eq_some_iff.1 e
        obtain ⟨v, hv⟩ : ∃ v, vals[j]? = some v := ⟨vals[j]'(by rw [← hcs.1, hlen]; omega), by simp⟩
        rw [hv]
        simp only [Option.map_some, Option.getD_some, if_pos hj]
        have hxm : x ∈ d'.toList := List.mem_of_getElem? hx
        have : d'[j]! = x := by
          rw [getElem!_pos d' j hj]
          have := (List.getElem?_eq_some_iff.1 hx).2
          simpa using this
        rw [this]
        exact hav x hxm
      · obtain ⟨k, rfl⟩ : ∃ k, j = d'.size + k := ⟨j - d'.size, by omega⟩
        rw [List.getElem?_append_right (by simp)] at e
        simp only [List.length_map, Array.length_toList, Nat.add_sub_cancel_left] at e
        rw [← hpad k] at e
        obtain ⟨u, q1, q2⟩ := hcs.get e
        rw [q1]
        simp only [Option.map_some, Option.getD_some]
        rw [if_neg (by omega)]
        exact q2
    · obtain ⟨l, k1, _⟩ := hI.lp b D hD
      rw [hw] at k1; cases k1
  exact h1.later (by simp [grow]) rfl rfl rfl (fun k hk => by
    simp only [grow]
    rw [Array.getElem?_append_left hk])
end
theorem acalls_sort_int {P : Program} {ρ : Ren} {Γ : Nat → Option (List AV)} (L : Go.Proofs.Lays.n189 P ρ) {f : FuncId} (hf : ρ.f 189 = f) (he : ∀ vs w, (callFunc f vs).run P w = .ok (.enter f vs) w) (i c : Nat) (T : TypeId) (l : List Int) (pad : List AV) (h : AH)
    (hi : h[i]? = some (.row (l.map (fun x => AV.int .i64 x) ++ pad) T)) (hl : l.length < 4611686018427387904) :
    ACalls P Γ f [.ms i 0 l.length c 1] h fun v h' => v = .tuple [] ∧ h' = h.set i (.row ((l.mergeSort fun x y => decide (x ≤ y)).map (fun x => AV.int .i64 x) ++ pad) T) := by
  subst hf
  refine ⟨he, fun G w vs hI hv => ?_⟩
  obtain ⟨b, vals, h1, h2, h3⟩ := hI.row hi
  obtain ⟨u, rfl, hu⟩ : ∃ u, vs = #[u] ∧ VR G (.ms i 0 l.length c 1) u := by
    obtain ⟨k1, k2⟩ := hv
    match vs, k1 with
    | ⟨[u]⟩, _ => exact ⟨u, rfl, k2 0 _ rfl⟩
  cases hu with
  | ms hb =>
    rw [h1] at hb; cases hb
    have hval : ∀ j, j < l.length → vals[j]? = some (Value.int .i64 l[j]!) := fun j hj => by
      have e : (l.map (fun x => AV.int .i64 x) ++ pad)[j]? = some (.int .i64 l[j]!) := by
        rw [List.getElem?_append_left (by simpa using hj), List.getElem?_map, List.getElem?_eq_getElem hj, getElem!_pos l j hj]; rfl
      obtain ⟨v, q1, q2⟩ := h3.get e
      cases q2
      exact q1
    refine (Go.Proofs.Any.slices_Sort_int L b 0 c l w (fun j hj => ?_) (lt_of_heap h2) hl).mono ?_
    · have hj' : j < l.length := by simpa using hj
      refine ⟨?_, ?_⟩
      · rw [cell_of h2, Nat.zero_add, hval j hj']; simp [hj']
      · simp [World.frozen?, h2]
    · rintro e w' ⟨rfl, n, os, rfl⟩
      refine ⟨_, G, .tuple [], _, rfl, Gh.le.refl G, hI.sorted (Value.int .i64) (fun x => .int .i64 x) (d' := (l.mergeSort fun x y => decide (x ≤ y)).toArray) (pad := pad) hi h1 h2 h3 (by simp) (fun j => ?_) (fun x _ => .int _ _) n os, .tuple (by simp) (by simp), rfl, by simp⟩
      rw [List.getElem?_append_right (by simp)]
      simp
end Go.Abs

/- The shelf's contracts at this dump: layings, written by the kit's lay-plain.mjs. No conditions. -/
set_option linter.unusedSimpArgs false
set_option linter.unusedVariables false
namespace Go.Proofs
open Go.Shelf
def Try.lays189_ren : Go.Shelf.Ren := ⟨fun | 189 => 80 | 125 => 113 | 257 => 112 | 128 => 137 | 129 => 138 | 294 => 128 | 295 => 129 | 296 => 130 | 297 => 131 | 298 => 132 | 299 => 133 | 216 => 134 | 300 => 135 | 301 => 136 | 328 => 150 | 329 => 151 | 330 => 152 | 331 => 153 | 332 => 154 | 215 => 155 | 343 => 160 | n => n, fun | 28 => 29 | 3 => 3 | 46 => 117 | 0 => 0 | 51 => 171 | 53 => 173 | 4 => 4 | 183 => 164 | 182 => 163 | 131 => 168 | 5 => 5 | 9 => 9 | 218 => 182 | 222 => 186 | 228 => 191 | 229 => 80 | n => n, fun | n => n⟩
theorem Try.lays189 : Go.Proofs.Lays.n189 Try.prog Try.lays189_ren := {
  mixed := by kernel_rfl
  f125 := Try.func113.trans (congrArg some (by kernel_rfl))
  f128 := Try.func137.trans (congrArg some (by kernel_rfl))
  f129 := Try.func138.trans (congrArg some (by kernel_rfl))
  f189 := Try.func80.trans (congrArg some (by kernel_rfl))
  f215 := Try.func155.trans (congrArg some (by kernel_rfl))
  f216 := Try.func134.trans (congrArg some (by kernel_rfl))
  f257 := Try.func112.trans (congrArg some (by kernel_rfl))
  f294 := Try.func128.trans (congrArg some (by kernel_rfl))
  f295 := Try.func129.trans (congrArg some (by kernel_rfl))
  f296 := Try.func130.trans (congrArg some (by kernel_rfl))
  f297 := Try.func131.trans (congrArg some (by kernel_rfl))
  f298 := Try.func132.trans (congrArg some (by kernel_rfl))
  f299 := Try.func133.trans (congrArg some (by kernel_rfl))
  f300 := Try.func135.trans (congrArg some (by kernel_rfl))
  f301 := Try.func136.trans (congrArg some (by kernel_rfl))
  f328 := Try.func150.trans (congrArg some (by kernel_rfl))
  f329 := Try.func151.trans (congrArg some (by kernel_rfl))
  f330 := Try.func152.trans (congrArg some (by kernel_rfl))
  f331 := Try.func153.trans (congrArg some (by kernel_rfl))
  f332 := Try.func154.trans (congrArg some (by kernel_rfl))
  f343 := Try.func160.trans (congrArg some (by kernel_rfl))
  t0 := Try.underlying0
  a0 := Try.isAgg0
  z0 := Try.sizeOf0
  v0 := Try.zeroValue0
  t3 := Try.underlying3
  a3 := Try.isAgg3
  z3 := Try.sizeOf3
  v3 := Try.zeroValue3
  t4 := Try.underlying4
  a4 := Try.isAgg4
  z4 := Try.sizeOf4
  v4 := Try.zeroValue4
  t5 := Try.underlying5
  a5 := Try.isAgg5
  z5 := Try.sizeOf5
  v5 := Try.zeroValue5
  t9 := Try.underlying9
  a9 := Try.isAgg9
  z9 := Try.sizeOf9
  v9 := Try.zeroValue9
  t28 := Try.underlying29
  a28 := Try.isAgg29
  z28 := Try.sizeOf29
  v28 := Try.zeroValue29
  t46 := Try.underlying117
  a46 := Try.isAgg117
  z46 := Try.sizeOf117
  v46 := Try.zeroValue117
  t51 := Try.underlying171
  a51 := Try.isAgg171
  z51 := Try.sizeOf171
  v51 := Try.zeroValue171
  t53 := Try.underlying173
  a53 := Try.isAgg173
  z53 := Try.sizeOf173
  v53 := Try.zeroValue173
  t131 := Try.underlying168
  a131 := Try.isAgg168
  z131 := Try.sizeOf168
  v131 := Try.zeroValue168
  t182 := Try.underlying163
  a182 := Try.isAgg163
  z182 := Try.sizeOf163
  v182 := Try.zeroValue163
  t183 := Try.underlying164
  a183 := Try.isAgg164
  z183 := Try.sizeOf164
  v183 := Try.zeroValue164
  t218 := Try.underlying182
  a218 := Try.isAgg182
  z218 := Try.sizeOf182
  v218 := Try.zeroValue182
  t222 := Try.underlying186
  a222 := Try.isAgg186
  z222 := Try.sizeOf186
  v222 := Try.zeroValue186
  t228 := Try.underlying191
  a228 := Try.isAgg191
  z228 := Try.sizeOf191
  v228 := Try.zeroValue191
  t229 := Try.underlying80
  a229 := Try.isAgg80
  z229 := Try.sizeOf80
  v229 := Try.zeroValue80 }
end Go.Proofs

/- Budgets and uses, in plain lists. No conditions. -/
set_option linter.unusedSimpArgs false
set_option linter.unusedVariables false
namespace Go.Proofs.Ytelehpccfaedjaa
open Go Go.Proofs Go.Abs

structure Bg where
  no : Int
  at_ : Int
  known : Int
  kind : Int
  period : Int
  count : Int
  value : Int
  gone : Bool
  deriving DecidableEq
structure Us where
  doc : Int
  kind : Int
  value : Int
  at_ : Int
  known : Int
  deriving DecidableEq
def encB (b : Bg) : AV := .agg [.int .i64 b.no, .int .i64 b.at_, .int .i64 b.known, .int .i64 b.kind, .int .i64 b.period, .int .i64 b.count, .int .i64 b.value, .bool b.gone]
def encU (x : Us) : AV := .agg [.int .i64 x.doc, .int .i64 x.kind, .int .i64 x.value, .int .i64 x.at_, .int .i64 x.known]
def encBs (l : List Bg) : List AV := l.map encB
def encUs (l : List Us) : List AV := l.map encU
def inR (n a b : Int) : Bool := decide (a ≤ n) && decide (n ≤ b)
def END : Int := 1099511627776
def rightB (x : Bg) : Bool := inR x.no 0 1048576 && inR x.at_ 0 (END - 1) && inR x.known 0 (END - 1) && inR x.kind (-1) 15 && inR x.period 1 END &&
  (if x.gone then inR x.count 0 0 && inR x.value 0 0 else inR x.count 0 1048576 && inR x.value 0 END)
/-- Budgets one after the other, behind a number. -/
def ordB : Int → List Bg → Bool
  | _, [] => true
  | last, x :: r => rightB x && decide (last < x.no) && ordB x.no r
def checkB (l : List Bg) : Int := if 4096 < l.length then 2 else if ordB (-1) l then 0 else 180
def rightU (x : Us) : Bool := inR x.doc 0 4095 && inR x.kind 0 15 && inR x.value 0 END && inR x.at_ 0 (END - 1) && inR x.known 0 (END - 1)
def usesF : List Int → List Us → Bool
  | _, [] => true
  | met, x :: r => rightU x && decide (x.doc ∉ met) && usesF (x.doc :: met) r
def errA (l : List Bg) (u : List Us) : Int := if checkB l ≠ 0 then checkB l else if 4096 < u.length then 2 else if usesF [] u then 0 else 180
def ofF (b : Bg) (known : Int) (x : Us) : Bool := decide (x.known ≤ known) && (decide (b.kind = -1) || decide (b.kind = x.kind))
def inP (b : Bg) (known p : Int) (x : Us) : Bool := ofF b known x && decide (x.at_ / b.period = p)
/-- How many uses of some kind there are, and their values' sum. -/
def sumP (p : Us → Bool) : List Us → Int × Int
  | [] => (0, 0)
  | x :: r => if p x = true then ((sumP p r).1 + 1, (sumP p r).2 + x.value) else sumP p r
/-- What was spent up to a time. -/
def spentF (b : Bg) (u : List Us) (at_ known : Int) : Int × Int := sumP (fun x => inP b known (at_ / b.period) x && decide (x.at_ ≤ at_)) u
/-- What was spent in a time's period. -/
def usedF (b : Bg) (u : List Us) (at_ known : Int) : Int × Int := sumP (inP b known (at_ / b.period)) u
def fineF (b : Bg) (s : Int × Int) : Bool := decide (s.1 ≤ b.count) && decide (s.2 ≤ b.value)
def findF (l : List Bg) (no : Int) : Option Bg := l.find? fun x => decide (x.no = no) && !x.gone
def timeF (t : Int) : Bool := decide (0 ≤ t) && decide (t < END)
def spentR (l : List Bg) (u : List Us) (no at_ known : Int) : Int × Int × Int :=
  if errA l u ≠ 0 then (0, 0, errA l u) else match findF l no with
  | some b => if timeF at_ && timeF known then ((spentF b u at_ known).1, (spentF b u at_ known).2, 0) else (0, 0, 1)
  | none => (0, 0, 1)

/-! ### Standing budgets -/
def cntB (at_ known : Int) (x : Bg) : Bool := decide (x.at_ ≤ at_) && decide (x.known ≤ known)
def forK (k : Int) (x : Bg) : Bool := decide (x.kind = -1) || decide (x.kind = k)
/-- No other one of its kind and period is later. -/
def newest (l : List Bg) (at_ known : Int) (x : Bg) : Bool := l.all fun y => !(decide (y.kind = x.kind) && decide (y.period = x.period) && cntB at_ known y && (decide (x.at_ < y.at_) || (decide (y.at_ = x.at_) && decide (x.no < y.no))))
def standsF (l : List Bg) (at_ known : Int) (x : Bg) : Bool := !x.gone && cntB at_ known x && newest l at_ known x
def standF (l : List Bg) (k at_ known : Int) : List Bg := l.filter fun x => forK k x && standsF l at_ known x
theorem ordB_lt : ∀ (l : List Bg) (a : Int), ordB a l = true → l.Pairwise (fun x y => x.no < y.no) ∧ (∀ x ∈ l, a < x.no) ∧ ∀ x ∈ l, rightB x = true
  | [], a, _ => by simp
  | x :: r, a, h => by
    rw [ordB] at h
    simp only [Bool.and_eq_true, decide_eq_true_eq] at h
    obtain ⟨⟨h1, h2⟩, h3⟩ := h
    obtain ⟨k1, k2, k3⟩ := ordB_lt r x.no h3
    refine ⟨List.pairwise_cons.2 ⟨k2, k1⟩, fun y hy => ?_, fun y hy => ?_⟩
    · rcases List.mem_cons.1 hy with rfl | hy
      · exact h2
      · have := k2 y hy; omega
    · rcases List.mem_cons.1 hy with rfl | hy
      · exact h1
      · exact k3 y hy
/-- Does one count for a kind and period? -/
def cntK (k at_ known : Int) (key : Int × Int) (y : Bg) : Bool := cntB at_ known y && forK k y && decide ((y.kind, y.period) = key)
def stepL (k at_ known : Int) (key : Int × Int) (o : Option Bg) (y : Bg) : Option Bg :=
  if cntK k at_ known key y = true then (match o with
    | some e => if e.at_ ≤ y.at_ then some y else some e
    | none => some y) else o
def latest (k at_ known : Int) (key : Int × Int) (l : List Bg) : Option Bg := l.foldl (stepL k at_ known key) none
theorem latest_snoc (k at_ known : Int) (key : Int × Int) (l : List Bg) (y : Bg) : latest k at_ known key (l ++ [y]) = stepL k at_ known key (latest k at_ known key l) y := by simp [latest]
def LatOK (k at_ known : Int) (key : Int × Int) (l : List Bg) : Option Bg → Prop
  | none => ∀ y ∈ l, cntK k at_ known key y = false
  | some e => e ∈ l ∧ cntK k at_ known key e = true ∧ ∀ y ∈ l, cntK k at_ known key y = true → y.at_ < e.at_ ∨ (y.at_ = e.at_ ∧ y.no ≤ e.no)
theorem latest_ok {k at_ known : Int} {key : Int × Int} : ∀ (r don : List Bg) (o : Option Bg), (don ++ r).Pairwise (fun x y => x.no < y.no) → LatOK k at_ known key don o → LatOK k at_ known key (don ++ r) (r.foldl (stepL k at_ known key) o)
  | [], don, o, _, h => by simpa using h
  | y :: r, don, o, hp, h => by
    have hlt : ∀ x ∈ don, x.no < y.no := fun x hx => by
      rw [List.pairwise_append] at hp
      exact hp.2.2 x hx y (by simp)
    have key' : LatOK k at_ known key (don ++ [y]) (stepL k at_ known key o y) := by
      unfold stepL
      split
      · rename_i hc
        cases o with
        | none =>
          refine ⟨by simp, hc, fun z hz hcz => ?_⟩
          rcases List.mem_append.1 hz with hz | hz
          · rw [h z hz] at hcz; cases hcz
          · rw [List.mem_singleton] at hz; subst hz; exact .inr ⟨rfl, Int.le_refl _⟩
        | some e =>
          obtain ⟨h1, h2, h3⟩ := h
          simp only
          split
          · rename_i hle
            refine ⟨by simp, hc, fun z hz hcz => ?_⟩
            rcases List.mem_append.1 hz with hz | hz
            · have := hlt z hz
              rcases h3 z hz hcz with h | ⟨h, _⟩ <;> omega
            · rw [List.mem_singleton] at hz; subst hz; exact .inr ⟨rfl, Int.le_refl _⟩
          · rename_i hle
            refine ⟨by simp [h1], h2, fun z hz hcz => ?_⟩
            rcases List.mem_append.1 hz with hz | hz
            · exact h3 z hz hcz
            · rw [List.mem_singleton] at hz; subst hz; left; omega
      · rename_i hc
        cases o with
        | none =>
          intro z hz
          rcases List.mem_append.1 hz with hz | hz
          · exact h z hz
          · rw [List.mem_singleton] at hz; subst hz; simpa using hc
        | some e =>
          obtain ⟨h1, h2, h3⟩ := h
          refine ⟨by simp [h1], h2, fun z hz hcz => ?_⟩
          rcases List.mem_append.1 hz with hz | hz
          · exact h3 z hz hcz
          · rw [List.mem_singleton] at hz; subst hz; exact absurd hcz hc
    have := latest_ok r (don ++ [y]) _ (by simpa using hp) key'
    simpa using this
theorem latest_is {k at_ known : Int} {key : Int × Int} {l : List Bg} (hp : l.Pairwise fun x y => x.no < y.no) : LatOK k at_ known key l (latest k at_ known key l) := by
  have := latest_ok (k := k) (at_ := at_) (known := known) (key := key) l [] none (by simpa using hp) (fun y hy => by simp at hy)
  rw [List.nil_append] at this
  exact this
theorem no_inj {l : List Bg} (hp : l.Pairwise fun x y => x.no < y.no) {x y : Bg} (hx : x ∈ l) (hy : y ∈ l) (h : x.no = y.no) : x = y := by
  induction l with
  | nil => simp at hx
  | cons a l ih =>
    rw [List.pairwise_cons] at hp
    rcases List.mem_cons.1 hx with rfl | hx1 <;> rcases List.mem_cons.1 hy with rfl | hy1
    · rfl
    · have := hp.1 y hy1; omega
    · have := hp.1 x hx1; omega
    · exact ih hp.2 hx1 hy1
/-- The one that stands is the latest one of its kind and period. -/
theorem stands_iff {k at_ known : Int} {l : List Bg} (hp : l.Pairwise fun x y => x.no < y.no) {y : Bg} (hy : y ∈ l) : latest k at_ known (y.kind, y.period) l = some y ↔ (forK k y && cntB at_ known y && newest l at_ known y) = true := by
  have hL := latest_is (k := k) (at_ := at_) (known := known) (key := (y.kind, y.period)) hp
  constructor
  · intro h
    rw [h] at hL
    obtain ⟨_, h2, h3⟩ := hL
    simp only [cntK, Bool.and_eq_true, decide_eq_true_eq] at h2
    simp only [Bool.and_eq_true]
    refine ⟨⟨h2.1.2, h2.1.1⟩, ?_⟩
    rw [newest, List.all_eq_true]
    intro z hz
    simp only [Bool.not_eq_true', Bool.and_eq_false_iff, decide_eq_false_iff_not, Bool.or_eq_false_iff]
    by_cases hk : z.kind = y.kind
    · by_cases hq : z.period = y.period
      · cases hc : cntB at_ known z with
        | false => exact .inl (.inr rfl)
        | true =>
          have hz2 : cntK k at_ known (y.kind, y.period) z = true := by
            simp only [cntK, hc, Bool.true_and, Bool.and_eq_true, decide_eq_true_eq, forK, hk, hq, and_true]
            exact h2.1.2
          refine .inr ?_
          rcases h3 z hz hz2 with h | ⟨h, h'⟩
          · exact ⟨by omega, .inl (by omega)⟩
          · exact ⟨by omega, .inr (by omega)⟩
      · exact .inl (.inl (.inr hq))
    · exact .inl (.inl (.inl hk))
  · intro h
    simp only [Bool.and_eq_true] at h
    obtain ⟨⟨h1, h2⟩, h3⟩ := h
    have hcy : cntK k at_ known (y.kind, y.period) y = true := by simp [cntK, h1, h2]
    cases hl : latest k at_ known (y.kind, y.period) l with
    | none => rw [hl] at hL; rw [hL y hy] at hcy; cases hcy
    | some e =>
      rw [hl] at hL
      obtain ⟨k1, k2, k3⟩ := hL
      rw [newest, List.all_eq_true] at h3
      have h4 := h3 e k1
      simp only [cntK, Bool.and_eq_true, decide_eq_true_eq, Prod.mk.injEq] at k2
      simp only [k2.2.1, k2.2.2, k2.1.1, decide_true, Bool.true_and, Bool.not_eq_true', Bool.or_eq_false_iff, decide_eq_false_iff_not, Bool.and_eq_false_iff] at h4
      rcases k3 y hy hcy with h | ⟨h, h'⟩
      · exact absurd h h4.1
      · have : e.no = y.no := by
          rcases h4.2 with h5 | h5
          · exact absurd h.symm h5
          · omega
        rw [no_inj hp k1 hy this]
end Go.Proofs.Ytelehpccfaedjaa

/- Sums over uses, what is overspent, and the steps of a period, in plain lists. No conditions. -/
set_option linter.unusedSimpArgs false
set_option linter.unusedVariables false
namespace Go.Proofs.Ytelehpccfaedjaa
open Go Go.Proofs Go.Abs

/-! ### Sums -/
theorem sumP_app (p : Us → Bool) : ∀ (a b : List Us), sumP p (a ++ b) = ((sumP p a).1 + (sumP p b).1, (sumP p a).2 + (sumP p b).2)
  | [], b => by simp [sumP]
  | x :: a, b => by
    rw [List.cons_append, sumP, sumP, sumP_app p a b]
    split
    · simp only [Prod.mk.injEq]; omega
    · rfl
theorem sumP_snoc (p : Us → Bool) (a : List Us) (x : Us) : sumP p (a ++ [x]) = if p x = true then ((sumP p a).1 + 1, (sumP p a).2 + x.value) else sumP p a := by
  rw [sumP_app, sumP, sumP]
  split <;> simp
theorem sumP_congr {p q : Us → Bool} : ∀ {l : List Us}, (∀ x ∈ l, p x = q x) → sumP p l = sumP q l
  | [], _ => rfl
  | x :: l, h => by rw [sumP, sumP, h x (by simp), sumP_congr (l := l) fun y hy => h y (by simp [hy])]
theorem sumP_perm {p : Us → Bool} {l m : List Us} (h : l.Perm m) : sumP p l = sumP p m := by
  induction h with
  | nil => rfl
  | cons x _ ih => rw [sumP, sumP, ih]
  | swap x y l =>
    simp only [sumP]
    split <;> split <;> simp only [Prod.mk.injEq, and_true, true_and] <;> omega
  | trans _ _ h1 h2 => exact h1.trans h2
theorem sumP_filter (p q : Us → Bool) : ∀ (l : List Us), sumP p (l.filter q) = sumP (fun x => p x && q x) l
  | [] => rfl
  | x :: l => by
    have ih := sumP_filter p q l
    cases hq : q x with
    | true => rw [List.filter_cons_of_pos hq, sumP, sumP, ih, hq, Bool.and_true]
    | false => rw [List.filter_cons_of_neg (by simp [hq]), sumP, ih, hq, Bool.and_false]; simp
theorem sumP_split (p q : Us → Bool) : ∀ (l : List Us), sumP p l = ((sumP (fun x => p x && q x) l).1 + (sumP (fun x => p x && !q x) l).1, (sumP (fun x => p x && q x) l).2 + (sumP (fun x => p x && !q x) l).2)
  | [] => rfl
  | x :: l => by
    rw [sumP, sumP, sumP, sumP_split p q l]
    cases p x <;> cases q x <;> simp <;> omega
theorem sumP_none {p : Us → Bool} : ∀ {l : List Us}, (∀ x ∈ l, p x = false) → sumP p l = (0, 0)
  | [], _ => rfl
  | x :: l, h => by rw [sumP, if_neg (by rw [h x (by simp)]; simp), sumP_none fun y hy => h y (by simp [hy])]
theorem sumP_nonneg {p : Us → Bool} : ∀ {l : List Us}, (∀ x ∈ l, 0 ≤ x.value) → 0 ≤ (sumP p l).1 ∧ 0 ≤ (sumP p l).2
  | [], _ => by simp [sumP]
  | x :: l, h => by
    have ih := sumP_nonneg (p := p) (l := l) fun y hy => h y (by simp [hy])
    have := h x (by simp)
    rw [sumP]
    split <;> (try simp only []) <;> omega
theorem sumP_bound {p : Us → Bool} {B : Int} (hB : 0 ≤ B) : ∀ {l : List Us}, (∀ x ∈ l, x.value ≤ B) → (sumP p l).1 ≤ l.length ∧ (sumP p l).2 ≤ B * l.length
  | [], _ => by simp [sumP]
  | x :: l, h => by
    have ih := sumP_bound (p := p) hB (l := l) fun y hy => h y (by simp [hy])
    have hx := h x (by simp)
    have e : B * ((x :: l).length : Int) = B * l.length + B := by rw [List.length_cons]; simp [Int.mul_add]
    rw [sumP, e, List.length_cons]
    split <;> (try simp only []) <;> omega
theorem sumP_pos {p : Us → Bool} {l : List Us} {x : Us} (hx : x ∈ l) (hp : p x = true) : 1 ≤ (sumP p l).1 := by
  induction l with
  | nil => simp at hx
  | cons y l ih =>
    have h0 : ∀ m : List Us, 0 ≤ (sumP p m).1 := fun m => by
      induction m with
      | nil => simp [sumP]
      | cons z m ih => rw [sumP]; split <;> (try simp only []) <;> omega
    rw [sumP]
    rcases List.mem_cons.1 hx with rfl | hx
    · rw [if_pos hp]; have := h0 l; simp; omega
    · have := ih hx
      split <;> (try simp only []) <;> omega
theorem usesF_iff : ∀ (l : List Us) (met : List Int), usesF met l = true ↔ (∀ x ∈ l, rightU x = true) ∧ (l.map fun x => x.doc).Nodup ∧ ∀ x ∈ l, x.doc ∉ met
  | [], met => by simp [usesF]
  | x :: r, met => by
    rw [usesF, Bool.and_eq_true, Bool.and_eq_true, decide_eq_true_eq, usesF_iff r (x.doc :: met)]
    simp only [List.mem_cons, List.map_cons, List.nodup_cons, List.mem_map, not_or, forall_eq_or_imp]
    constructor
    · rintro ⟨⟨h1, h2⟩, h3, h4, h5⟩
      exact ⟨⟨h1, h3⟩, ⟨fun ⟨y, hy, e⟩ => (h5 y hy).1 e, h4⟩, h2, fun y hy => (h5 y hy).2⟩
    · rintro ⟨⟨h1, h3⟩, ⟨h6, h4⟩, h2, h5⟩
      exact ⟨⟨h1, h2⟩, h3, h4, fun y hy => ⟨fun e => h6 ⟨y, hy, e⟩, h5 y hy⟩⟩

/-! ### What is overspent -/
def hasF (l : List Bg) (no : Int) : Bool := l.any fun y => decide (y.no = no)
def overB (l : List Bg) (u : List Us) (known : Int) (b : Bg) : Bool := u.any fun x => decide (x.known ≤ known) && (hasF (standF l x.kind x.at_ known) b.no && !fineF b (spentF b u x.at_ known))
def overF (l : List Bg) (u : List Us) (known : Int) : List Int := (l.filter (overB l u known)).map fun b => b.no
def overR (l : List Bg) (u : List Us) (known : Int) : List Int × Int := if errA l u ≠ 0 then ([], errA l u) else if timeF known then (overF l u known, 0) else ([], 1)
theorem mem_standF {l : List Bg} {k a n : Int} {b : Bg} : b ∈ standF l k a n ↔ b ∈ l ∧ forK k b = true ∧ standsF l a n b = true := by
  rw [standF, List.mem_filter, Bool.and_eq_true]
theorem hasF_iff {l : List Bg} (hp : l.Pairwise fun x y => x.no < y.no) {k a n : Int} {b : Bg} (hb : b ∈ l) : hasF (standF l k a n) b.no = true ↔ b ∈ standF l k a n := by
  rw [hasF, List.any_eq_true]
  constructor
  · rintro ⟨y, hy, e⟩
    have := no_inj hp (mem_standF.1 hy).1 hb (of_decide_eq_true e)
    exact this ▸ hy
  · exact fun h => ⟨b, h, decide_eq_true rfl⟩
theorem overB_iff {l : List Bg} (hp : l.Pairwise fun x y => x.no < y.no) {u : List Us} {n : Int} {b : Bg} (hb : b ∈ l) :
    overB l u n b = true ↔ ∃ x ∈ u, x.known ≤ n ∧ b ∈ standF l x.kind x.at_ n ∧ fineF b (spentF b u x.at_ n) = false := by
  rw [overB, List.any_eq_true]
  refine exists_congr fun x => and_congr_right fun _ => ?_
  rw [Bool.and_eq_true, Bool.and_eq_true, decide_eq_true_eq, hasF_iff hp hb, Bool.not_eq_true']
theorem overF_sorted {l : List Bg} (hp : l.Pairwise fun x y => x.no < y.no) (u : List Us) (n : Int) : (overF l u n).Pairwise (· < ·) := by
  rw [overF, List.pairwise_map]
  exact hp.sublist List.filter_sublist
theorem mem_overF {l : List Bg} (hp : l.Pairwise fun x y => x.no < y.no) {u : List Us} {n m : Int} :
    m ∈ overF l u n ↔ ∃ x ∈ u, x.known ≤ n ∧ ∃ b ∈ standF l x.kind x.at_ n, b.no = m ∧ fineF b (spentF b u x.at_ n) = false := by
  rw [overF, List.mem_map]
  constructor
  · rintro ⟨b, hb, rfl⟩
    obtain ⟨h1, h2⟩ := List.mem_filter.1 hb
    obtain ⟨x, hx, hk, hs, hf⟩ := (overB_iff hp h1).1 h2
    exact ⟨x, hx, hk, b, hs, rfl, hf⟩
  · rintro ⟨x, hx, hk, b, hs, rfl, hf⟩
    have hl := (mem_standF.1 hs).1
    exact ⟨b, List.mem_filter.2 ⟨hl, (overB_iff hp hl).2 ⟨x, hx, hk, hs, hf⟩⟩, rfl⟩
theorem sorted_eq {a b : List Int} (ha : a.Pairwise (· < ·)) (hb : b.Pairwise (· < ·)) (h : ∀ x, x ∈ a ↔ x ∈ b) : a = b := by
  have na : a.Nodup := ha.imp fun h e => by omega
  have nb : b.Nodup := hb.imp fun h e => by omega
  exact List.Perm.eq_of_pairwise (le := (· < ·)) (fun x y _ _ h1 h2 => by omega) ha hb ((List.perm_ext_iff_of_nodup na nb).2 h)
theorem sortI_lt {l : List Int} (h : l.Nodup) : (sortI l).Pairwise (· < ·) := by
  have h1 := sortI_le l
  have h2 : (sortI l).Nodup := (sortI_perm l).nodup_iff.2 h
  exact (List.pairwise_and_iff.2 ⟨h1, h2⟩).imp fun ⟨a, b⟩ => by omega

/-! ### The steps of a period -/
structure St where
  at_ : Int
  value : Int
  ok : Bool
  deriving DecidableEq
def encS (s : St) : AV := .agg [.int .i64 s.at_, .int .i64 s.value, .bool s.ok]
/-- A time put into its place in an increasing list, unless it is there. -/
def putF (l : List Int) (t : Int) : List Int :=
  match l with
  | [] => [t]
  | y :: r => if y < t then y :: putF r t else if y = t then y :: r else t :: y :: r
theorem mem_putF {t x : Int} : ∀ {l : List Int}, x ∈ putF l t ↔ x ∈ l ∨ x = t
  | [] => by simp [putF]
  | y :: r => by
    rw [putF]
    split
    · rw [List.mem_cons, mem_putF (l := r), List.mem_cons]
      constructor
      · rintro (h | h | h) <;> simp [h]
      · rintro ((h | h) | h) <;> simp [h]
    · split
      · rename_i h; subst h
        constructor
        · exact fun h => .inl h
        · rintro (h | h)
          · exact h
          · simp [h]
      · rw [List.mem_cons, or_comm]
theorem putF_sorted {t : Int} : ∀ {l : List Int}, l.Pairwise (· < ·) → (putF l t).Pairwise (· < ·)
  | [], _ => by simp [putF]
  | y :: r, h => by
    rw [List.pairwise_cons] at h
    rw [putF]
    split
    · refine List.pairwise_cons.2 ⟨fun z hz => ?_, putF_sorted h.2⟩
      rcases mem_putF.1 hz with hz | rfl
      · exact h.1 z hz
      · assumption
    · split
      · exact List.pairwise_cons.2 h
      · refine List.pairwise_cons.2 ⟨fun z hz => ?_, List.pairwise_cons.2 h⟩
        rcases List.mem_cons.1 hz with rfl | hz
        · omega
        · have := h.1 z hz; omega
def timesF (b : Bg) (u : List Us) (p n : Int) : List Int := (u.filter (inP b n p)).foldl (fun l x => putF l x.at_) []
theorem foldl_put : ∀ (u : List Us) (l : List Int), l.Pairwise (· < ·) → (u.foldl (fun l x => putF l x.at_) l).Pairwise (· < ·) ∧ ∀ t, t ∈ u.foldl (fun l x => putF l x.at_) l ↔ t ∈ l ∨ ∃ x ∈ u, x.at_ = t
  | [], l, h => by simpa using h
  | x :: u, l, h => by
    obtain ⟨h1, h2⟩ := foldl_put u (putF l x.at_) (putF_sorted h)
    refine ⟨h1, fun t => ?_⟩
    rw [List.foldl_cons, h2, mem_putF]
    simp only [List.mem_cons, exists_eq_or_imp]
    constructor
    · rintro ((h | h) | h)
      · exact .inl h
      · exact .inr (.inl h.symm)
      · exact .inr (.inr h)
    · rintro (h | h | h)
      · exact .inl (.inl h)
      · exact .inl (.inr h.symm)
      · exact .inr h
theorem timesF_sorted (b : Bg) (u : List Us) (p n : Int) : (timesF b u p n).Pairwise (· < ·) := (foldl_put _ [] .nil).1
theorem mem_timesF {b : Bg} {u : List Us} {p n t : Int} : t ∈ timesF b u p n ↔ ∃ x ∈ u, inP b n p x = true ∧ x.at_ = t := by
  rw [timesF, (foldl_put _ [] .nil).2]
  simp only [List.not_mem_nil, false_or, List.mem_filter]
  exact ⟨fun ⟨x, ⟨h1, h2⟩, h3⟩ => ⟨x, h1, h2, h3⟩, fun ⟨x, h1, h2, h3⟩ => ⟨x, ⟨h1, h2⟩, h3⟩⟩
theorem timesF_snoc (b : Bg) (u : List Us) (x : Us) (p n : Int) : timesF b (u ++ [x]) p n = if inP b n p x = true then putF (timesF b u p n) x.at_ else timesF b u p n := by
  rw [timesF, timesF, List.filter_append]
  split
  · rename_i h; rw [List.filter_cons_of_pos h, List.foldl_append]; rfl
  · rename_i h; rw [List.filter_cons_of_neg h, List.filter_nil, List.append_nil]
theorem putF_len (t : Int) : ∀ l : List Int, (putF l t).length ≤ l.length + 1
  | [] => by simp [putF]
  | y :: l => by
    have := putF_len t l
    rw [putF]
    split
    · simp; omega
    · split <;> simp
theorem foldl_put_len : ∀ (u : List Us) (l : List Int), (u.foldl (fun l x => putF l x.at_) l).length ≤ l.length + u.length
  | [], l => by simp
  | x :: u, l => by
    have h1 := foldl_put_len u (putF l x.at_)
    have h2 := putF_len x.at_ l
    rw [List.foldl_cons, List.length_cons]
    omega
theorem timesF_len (b : Bg) (u : List Us) (p n : Int) : (timesF b u p n).length ≤ u.length := by
  have h1 := foldl_put_len (u.filter (inP b n p)) []
  have h2 := List.length_filter_le (inP b n p) u
  rw [List.length_nil] at h1
  exact Nat.le_trans h1 (by omega)
def stepF (b : Bg) (u : List Us) (n t : Int) : St := ⟨t, (spentF b u t n).1, fineF b (spentF b u t n)⟩
def stepsF (b : Bg) (u : List Us) (p n : Int) : List St := (timesF b u p n).map (stepF b u n)
def histR (l : List Bg) (u : List Us) (no p n : Int) : List St × Int :=
  if errA l u ≠ 0 then ([], errA l u) else match findF l no with
  | some b => if decide (0 ≤ p) && decide (p ≤ (END - 1) / b.period) && timeF n then (stepsF b u p n, 0) else ([], 1)
  | none => ([], 1)
end Go.Proofs.Ytelehpccfaedjaa

/- Lists of one's own as arrays, the library's sort of numbers at any length, entries of maps by numbers. No conditions. -/
set_option linter.unusedSimpArgs false
set_option linter.unusedVariables false
namespace Go.Proofs.Ytelehpccfaedjaa
open Go Go.Proofs Go.Abs

theorem loose_I (l : List Int) : looseL (encI l) = encI l := looseL_maps _ (fun _ => by rw [loose]) l
theorem rb_I (n : Nat) (l : List Int) : RB n (.sl (encI l) .free) = True := eq_true (.sl' fun r hr => by
  obtain ⟨i, _, rfl⟩ := List.mem_map.1 hr; exact .int _ _)
theorem rowsOK_I (l : List Int) : RowsOK 1 (encI l) := RowsOK.int l
attribute [go_sem] loose_I rb_I
theorem encI_snoc (l : List Int) (x : Int) : encI l ++ [.int .i64 x] = encI (l ++ [x]) := by simp [encI]
structure FlS where
  l : List Int
  own : Abs.Own
  j : AH
theorem len_mid {α : Type} {don r : List α} {x : α} {k : Nat} (h : (don ++ x :: r).length ≤ k) : don.length + 1 + r.length ≤ k := by simp at h; omega

/-- A list of one's own: nil, or an array with room behind it. -/
def OwnM (b : Nat) (j : AH) (T : TypeId) (v : AV) (xs : List AV) : Prop :=
  (v = .sl [] .full ∧ xs = []) ∨ ∃ q c pad, v = .ms (b + q) 0 xs.length c 1 ∧ j[q]? = some (.row (xs ++ pad) T) ∧ c = xs.length + pad.length ∧ ∀ a ∈ pad, a.isAgg = false
theorem OwnM.more {b : Nat} {j : AH} {T : TypeId} {v : AV} {xs : List AV} (h : OwnM b j T v xs) (k : AH) : OwnM b (j ++ k) T v xs := by
  rcases h with h | ⟨q, c, pad, h1, h2, h3⟩
  · exact .inl h
  · exact .inr ⟨q, c, pad, h1, by rw [List.getElem?_append_left (List.getElem?_eq_some_iff.1 h2).1]; exact h2, h3⟩
theorem flat_I (l : List Int) : flat (encI l) = encI l := by
  induction l with
  | nil => rfl
  | cons x l ih =>
    have : flat (.int .i64 x :: encI l) = .int .i64 x :: flat (encI l) := rfl
    rw [encI_cons, this, ih]
theorem splice_app {xs pad ys : List AV} (h : xs.length + ys.length ≤ xs.length + pad.length) : splice (xs ++ pad) (0 + xs.length * 1) ys = xs ++ ys ++ pad.drop ys.length := by
  rw [Nat.zero_add, Nat.mul_one]
  rcases ys with _ | ⟨y, _ | ⟨z, ys⟩⟩
  · simp [splice]
  · cases pad with
    | nil => exact absurd h (by simp)
    | cons p pad => simp [splice]
  · simp [splice]
theorem aApM_own {v x : AV} {xs ys : List AV} {h j : AH} {T : TypeId} {by_ : Nat} {z : List AV} {Q : AV → AH → Prop} (hv : OwnM h.length j T v xs) (hs : SrcIs x (h ++ j) ys) (hx : RowsOK 1 ys) (hf : flat ys = ys) (hne : ys ≠ [])
    (h63 : xs.length + ys.length ≤ 9223372036854775807) (hby : (xs.length + ys.length) * by_ ≤ 140737488355328) (H : ∀ v' j', OwnM h.length j' T v' (xs ++ ys) → j.length ≤ j'.length → Q v' (h ++ j')) : aApM (some (1, by_, z, T)) v x (h ++ j) Q := by
  refine ⟨ys, hs, hx, ?_⟩
  rcases hv with ⟨rfl, rfl⟩ | ⟨q, c, pad, rfl, h2, h3, h4⟩
  · refine ⟨by simpa using h63, by simpa using hby, fun e => absurd e hne, fun _ c hc => ?_⟩
    rw [hf, List.append_assoc]
    have := H (.ms (h ++ j).length 0 ys.length c 1) (j ++ [.row (ys ++ List.replicate ((c - ys.length) * 1) .top) T]) (.inr ⟨j.length, c, List.replicate (c - ys.length) .top, by simp, by simp, by simp; omega, fun a ha => by rw [List.eq_of_mem_replicate ha]; rfl⟩) (by simp)
    simpa using this
  · have hq := (List.getElem?_eq_some_iff.1 h2).1
    have hg : (h ++ j)[h.length + q]? = some (.row (xs ++ pad) T) := by rw [hget_add]; exact h2
    refine ⟨rfl, h63, hby, by omega, ?_⟩
    rw [hg]
    refine ⟨by simp; omega, fun hle => ?_, fun hlt c' hc' => ?_⟩
    · have := H (.ms (h.length + q) 0 (xs.length + ys.length) c 1) (j.set q (.row (xs ++ ys ++ pad.drop ys.length) T)) (.inr ⟨q, c, pad.drop ys.length, by simp, by simp [hq], by simp; omega, fun a ha => h4 a (List.mem_of_mem_drop ha)⟩) (by simp)
      rw [hset_add, hf]
      rw [show splice (xs ++ pad) (0 + xs.length * 1) ys = xs ++ ys ++ pad.drop ys.length from splice_app (by omega)]
      exact this
    · have := H (.ms (h ++ j).length 0 (xs.length + ys.length) c' 1) (j ++ [.row (xs ++ ys ++ List.replicate ((c' - (xs.length + ys.length)) * 1) .top) T]) (.inr ⟨j.length, c', List.replicate (c' - (xs.length + ys.length)) .top, by simp, by simp, by simp; omega, fun a ha => by rw [List.eq_of_mem_replicate ha]; rfl⟩) (by simp)
      rw [hf]
      simpa using this

theorem OwnM.shift {b : Nat} {k j : AH} {T : TypeId} {v : AV} {xs : List AV} (h : OwnM (b + k.length) j T v xs) : OwnM b (k ++ j) T v xs := by
  rcases h with h | ⟨q, c, pad, h1, h2, h3, h4⟩
  · exact .inl h
  · exact .inr ⟨k.length + q, c, pad, by rw [h1, Nat.add_assoc], by rw [hget_add]; exact h2, h3, h4⟩
theorem OwnM.src {H j : AH} {T : TypeId} {v : AV} {l : List Int} (h : OwnM H.length j T v (encI l)) : SrcIs v (H ++ j) (encI l) := by
  rcases h with ⟨rfl, h2⟩ | ⟨q, c, pad, rfl, h2, h3, h4⟩
  · exact h2
  · refine ⟨encI l ++ pad, T, by rw [hget_add]; exact h2, rfl, by simp, fun x hx => ?_, by simp⟩
    rw [List.drop_zero, List.take_left] at hx
    obtain ⟨n, _, rfl⟩ := List.mem_map.1 hx; rfl
/-- **The end of a function whose result may hold an array of its own**, a list from now on. -/
theorem ACalls.endM {P : Program} {Γ : Nat → Option (List AV)} {f : FuncId} {args : List AV} {h : AH} {R : AV → Prop} (H : ACalls P Γ f args h fun v h' => (∃ l, h' = h ++ l) ∧ ((RB h.length (loose v) ∧ R (loose v)) ∨ ∃ q cs T, h'[h.length + q]? = some (.row cs T) ∧ RB h.length (loose (fzV (h.length + q) cs v)) ∧ R (loose (fzV (h.length + q) cs v)))) :
    ACalls P Γ f args h fun v h' => h' = h ∧ R v := by
  refine ACalls.dropL ⟨H.1, fun G w vs hI hv => (H.2 G w vs hI hv).mono fun e w' hr => ?_⟩
  obtain ⟨v, G', av, h', k1, k2, k3, k4, ⟨l, rfl⟩, k5 | ⟨q, cs, T, e1, k5⟩⟩ := hr
  · exact ⟨v, G', av, _, k1, k2, k3, k4, ⟨l, rfl⟩, k5⟩
  · obtain ⟨b, vals, q1, q2, q3⟩ := k3.freeze e1 (Froze.set e1)
    exact ⟨v, _, _, _, k1, k2.trans q1, q2, q3 _ _ k4, ⟨l.set q .frozen, hset_add h l q .frozen⟩, k5⟩

theorem fzL_maps {α : Type} (f : α → AV) {i : Nat} {cs : List AV} (hf : ∀ a, fzV i cs (f a) = f a) (l : List α) : fzL i cs (l.map f) = l.map f := by
  rw [fzL_map, List.map_map]
  exact List.map_congr_left fun a _ => hf a
theorem fz_I (i : Nat) (cs : List AV) (l : List Int) : fzL i cs (encI l) = encI l := fzL_maps _ (fun _ => rfl) l
theorem fz_own (i c : Nat) (l : List Int) (pad : List AV) (hc : l.length ≤ c) (hp : ∀ a ∈ pad, a.isAgg = false) : fzV i (encI l ++ pad) (.ms i 0 l.length c 1) = .sl (encI l) .free := by
  rw [fzV, if_pos, List.drop_zero, rowsOf_one _ _ (by simp [encI_len]), List.take_append_of_le_length (by simp [encI_len]), ← encI_len l, List.take_length]
  refine ⟨rfl, ?_⟩
  simp only [fzOK, Bool.and_eq_true, decide_eq_true_eq, bne_iff_ne, List.all_eq_true, Bool.not_eq_true', List.length_append, encI_len]
  refine ⟨⟨⟨by omega, hc⟩, by decide⟩, fun a ha => ?_⟩
  rcases List.mem_append.1 ha with ha | ha
  · obtain ⟨x, _, rfl⟩ := List.mem_map.1 ha; rfl
  · exact hp a ha

theorem sortI_merge (l : List Int) : (l.mergeSort fun x y => decide (x ≤ y)) = sortI l := by
  refine sortI_of ?_ (List.mergeSort_perm _ _)
  have := List.pairwise_mergeSort (le := fun x y : Int => decide (x ≤ y)) (fun a b c h1 h2 => by simp at h1 h2 ⊢; omega) (fun a b => by simp; omega) l
  exact this.imp fun h => by simpa using h
/-- slices.Sort of numbers that lie in an array of one's own. -/
theorem sortAll_calls (Γ : Nat → Option (List AV)) (i c : Nat) (T : TypeId) (l : List Int) (pad : List AV) (h : AH) (hi : h[i]? = some (.row (encI l ++ pad) T)) (hl : l.length ≤ 1000000000) :
    ACalls Try.prog Γ 80 [.ms i 0 l.length c 1] h fun v h' => v = .tuple [] ∧ h' = h.set i (.row (encI (sortI l) ++ pad) T) := by
  have := acalls_sort_int (Γ := Γ) Try.lays189 (f := 80) (by kernel_rfl) (enters_of Try.func80 (by kernel_rfl) rfl) i c T l pad h hi (by omega)
  rw [sortI_merge] at this
  exact this
set_option maxRecDepth 100000 in
theorem isort0_calls (Γ : Nat → Option (List AV)) (o : Abs.Own) (h : AH) :
    ACalls Try.prog Γ 128 [.sl [] o, .int .i64 0, .int .i64 0] h fun v h' => h' = h := by
  refine acalls_code (rs := []) Try.func128 rfl rfl rfl rfl Ty.mixed (by kernel_rfl) ?_
  simp (disch := omega) only [go_sem, seval]
  refine awp_loopS (α := Unit) [2, 6] (fun s => [(2, .int .i64 0), (6, .int .i64 1)]) (fun s => h) (fun s => True) (fun _ => 0) () ?_ rfl trivial Ty.mixed (by kernel_rfl) ?_
  · simp (disch := omega) only [go_sem, seval]
  rintro _ _
  simp (disch := omega) only [go_sem, seval]
  first | (refine AWP.keep [] (aCode_ok Ty.mixed _ _ _ _ (by kernel_rfl) ?_); simp (disch := omega) only [go_sem, seval]) | skip
set_option maxRecDepth 100000 in
theorem pdq0_calls (Γ : Nat → Option (List AV)) (o : Abs.Own) (m : Int) (h : AH) :
    ACalls Try.prog Γ 112 [.sl [] o, .int .i64 0, .int .i64 0, .int .i64 m] h fun v h' => h' = h := by
  refine acalls_code (rs := []) Try.func112 rfl rfl rfl rfl Ty.mixed (by kernel_rfl) ?_
  simp (disch := omega) only [go_sem, seval]
  refine awp_loopS (α := Unit) [0, 1, 2, 3, 8, 9] (fun _ => [(0, .sl [] o), (1, .int .i64 0), (2, .int .i64 0), (3, .int .i64 m), (8, .bool true), (9, .bool true)])
    (fun _ => h) (fun _ => True) (fun _ => 0) () ?_ rfl trivial Ty.mixed (by kernel_rfl) ?_
  · simp (disch := omega) only [go_sem, seval]
  rintro _ _
  simp (disch := omega) only [go_sem, seval]
  refine ACalls.then (isort0_calls Γ o _) ?_
  rintro _ _ rfl
  simp (disch := omega) only [go_sem, seval]
set_option maxRecDepth 100000 in
theorem sort0_calls (Γ : Nat → Option (List AV)) (o : Abs.Own) (h : AH) :
    ACalls Try.prog Γ 80 [.sl [] o] h fun v h' => h' = h := by
  refine acalls_code (rs := []) Try.func80 rfl rfl rfl rfl Ty.mixed (by kernel_rfl) ?_
  simp (disch := omega) only [go_sem, seval]
  rw [IntWalk.u64_in _ ⟨by omega, by omega⟩]
  refine ACalls.then (len_calls Γ _ _ (by omega) (by omega)) ?_
  rintro _ _ ⟨rfl, m, rfl⟩
  simp (disch := omega) only [go_sem, seval]
  refine ACalls.then (pdq0_calls Γ o m _) ?_
  rintro _ _ rfl
  simp (disch := omega) only [go_sem, seval]
theorem mid_at (H j k : AH) (q : Nat) (hq : q < j.length) : (H ++ (j ++ k))[H.length + q]? = j[q]? := by
  rw [hget_add, List.getElem?_append_left hq]
theorem mid_set (H j k : AH) (q : Nat) (hq : q < j.length) (o : AObj) : (H ++ (j ++ k)).set (H.length + q) o = H ++ (j.set q o ++ k) := by
  rw [hset_add, List.set_append_left _ _ hq]
theorem sortM_calls (Γ : Nat → Option (List AV)) (H j k : AH) (T : TypeId) (v : AV) (l : List Int) (hv : OwnM H.length j T v (encI l)) (hl : l.length ≤ 1000000) :
    ACalls Try.prog Γ 80 [v] (H ++ (j ++ k)) fun _ h' => ∃ j', j'.length = j.length ∧ h' = H ++ (j' ++ k) ∧ OwnM H.length j' T v (encI (sortI l)) := by
  rcases hv with ⟨rfl, h0⟩ | ⟨q, c, pad, rfl, h2, h3, h4⟩
  · have hl0 : l = [] := by cases l with | nil => rfl | cons x r => simp [encI] at h0
    subst hl0
    exact (sort0_calls Γ .full _).mono fun v h' e => ⟨j, rfl, e, .inl ⟨rfl, rfl⟩⟩
  · have hq := (List.getElem?_eq_some_iff.1 h2).1
    rw [encI_len]
    refine (sortAll_calls Γ (H.length + q) c T l pad _ (by rw [mid_at _ _ _ _ hq]; exact h2) (by omega)).mono fun v h' e => ?_
    refine ⟨j.set q (.row (encI (sortI l) ++ pad) T), by simp, by rw [e.2, mid_set _ _ _ _ hq], .inr ⟨q, c, pad, ?_, by simp [hq], ?_, h4⟩⟩
    · rw [encI_len, (sortI_perm l).length_eq]
    · rw [h3, encI_len, encI_len, (sortI_perm l).length_eq]
/-- The numbers met so far. -/
def metF (ks : List Int) (seen : List Nat) : List Int := seen.map fun b => ks.getD b 0
theorem met_all {ks : List Int} {seen : List Nat} (h1 : seen.Nodup) (h2 : ∀ b ∈ seen, b < ks.length) (h3 : ∀ b, b < ks.length → b ∈ seen) : (metF ks seen).Perm ks := by
  have hp : seen.Perm (List.range ks.length) := by
    rw [List.perm_ext_iff_of_nodup h1 List.nodup_range]
    intro a
    rw [List.mem_range]
    exact ⟨h2 a, h3 a⟩
  refine (hp.map _).trans ?_
  have : (List.range ks.length).map (fun b => ks.getD b 0) = ks := by
    apply List.ext_getElem
    · simp
    · intro i h1 h2; simp at h1; simp [h1]
  rw [this]
theorem nodup_le : ∀ (a l : List Nat), a.Nodup → (∀ b ∈ a, b ∈ l) → a.length ≤ l.length
  | [], l, _, _ => by simp
  | x :: a, l, h, hm => by
    rw [List.nodup_cons] at h
    have hx := hm x (by simp)
    have := nodup_le a (l.erase x) h.2 fun b hb => (List.mem_erase_of_ne (fun e => by subst e; exact h.1 hb)).2 (hm b (by simp [hb]))
    rw [List.length_erase_of_mem hx] at this
    have := List.length_pos_of_mem hx
    simp; omega
theorem met_len {ks : List Int} {seen : List Nat} (h1 : seen.Nodup) (h2 : ∀ b ∈ seen, b < ks.length) : seen.length ≤ ks.length := by
  have := nodup_le seen (List.range ks.length) h1 (fun b hb => List.mem_range.2 (h2 b hb))
  simpa using this
def addK (n : Int) (ks : List Int) : List Int := if n ∈ ks then ks else ks ++ [n]
theorem mem_addK (n x : Int) (ks : List Int) : x ∈ addK n ks ↔ x ∈ ks ∨ x = n := by
  unfold addK
  split
  · rename_i h
    exact ⟨.inl, fun e => e.elim id fun e => by subst e; exact h⟩
  · simp
theorem addK_nodup {ks : List Int} (h : ks.Nodup) (n : Int) : (addK n ks).Nodup := by
  rw [addK]
  split
  · exact h
  · rename_i hn
    rw [List.nodup_append]
    refine ⟨h, by simp, fun a ha b hb e => ?_⟩
    rw [List.mem_singleton] at hb
    exact hn (by rw [← hb, ← e]; exact ha)
/-! ### Entries of a map by numbers -/
def entsA (f : Int → AV) : Nat → List Int → List (Nat × AV × AV)
  | _, [] => []
  | i, n :: r => (i, .int .i64 n, f n) :: entsA f (i + 1) r
theorem entsA_get (f : Int → AV) : ∀ (l : List Int) (i k : Nat), (entsA f i l)[k]? = (l[k]?).map fun n => (i + k, .int .i64 n, f n)
  | [], i, k => by simp [entsA]
  | n :: r, i, 0 => by simp [entsA]
  | n :: r, i, k + 1 => by
    rw [entsA, List.getElem?_cons_succ, List.getElem?_cons_succ, entsA_get f r (i + 1) k]
    congr 1
    funext x
    rw [show i + 1 + k = i + (k + 1) from by omega]
theorem entsA_len (f : Int → AV) (l : List Int) (i : Nat) : (entsA f i l).length = l.length := by
  induction l generalizing i with
  | nil => rfl
  | cons a l ih => simp [entsA, ih]
theorem entsA_app (f : Int → AV) (l r : List Int) (i : Nat) : entsA f i (l ++ r) = entsA f i l ++ entsA f (i + l.length) r := by
  induction l generalizing i with
  | nil => simp [entsA]
  | cons a l ih => simp [entsA, ih, Nat.add_assoc, Nat.add_comm 1]
theorem entsA_find (f : Int → AV) (p : Int) (l : List Int) (i : Nat) : (p ∈ l ∧ ∃ j, aFind (.int .i64 p) (entsA f i l) = some (some j) ∧ l[j]? = some p) ∨ (p ∉ l ∧ aFind (.int .i64 p) (entsA f i l) = some none) := by
  induction l generalizing i with
  | nil => exact .inr ⟨by simp, rfl⟩
  | cons a r ih =>
    by_cases ha : p = a
    · subst ha
      exact .inl ⟨by simp, 0, by simp [entsA, aFind], rfl⟩
    · rcases ih (i + 1) with ⟨h1, j, h2, h3⟩ | ⟨h1, h2⟩
      · exact .inl ⟨by simp [h1], j + 1, by simp [entsA, aFind, ha, h2], by simpa using h3⟩
      · exact .inr ⟨by simp [ha, h1], by simp [entsA, aFind, ha, h2]⟩
theorem look_entsA (f : Int → AV) (p : Int) (l : List Int) (i c : Nat) (z : AV) (K : AV → Prop) : aLkO false z (.int .i64 p) (some (.map (entsA f i l) c)) K = K (if p ∈ l then f p else z) := by
  unfold aLkO aLkF
  rcases entsA_find f p l i with ⟨h1, j, h2, h3⟩ | ⟨h1, h2⟩
  · have := entsA_get f l i j
    rw [h3] at this
    simp [h1, h2, this]
  · simp [h1, h2]
theorem entsA_congr {f f' : Int → AV} : ∀ (l : List Int) (i : Nat), (∀ x ∈ l, f' x = f x) → entsA f' i l = entsA f i l
  | [], _, _ => rfl
  | n :: r, i, h => by rw [entsA, entsA, h n (by simp), entsA_congr r (i + 1) fun x hx => h x (List.mem_cons_of_mem _ hx)]
theorem put_entsA {f f' : Int → AV} (p : Int) (ks : List Int) (hn : ks.Nodup) (hf : ∀ x, x ≠ p → f' x = f x) : (aFind (.int .i64 p) (entsA f 0 ks)).bind (putEnt (entsA f 0 ks) ks.length (.int .i64 p) (f' p)) = some (.map (entsA f' 0 (addK p ks)) (addK p ks).length) := by
  rcases entsA_find f p ks 0 with ⟨h1, j, h2, h3⟩ | ⟨h1, h2⟩
  · rw [h2, addK, if_pos h1]
    have hg := entsA_get f ks 0 j
    rw [h3] at hg
    simp only [Option.map_some] at hg
    simp only [Option.bind_some, putEnt, hg, Option.map_some]
    congr 2
    apply List.ext_getElem?
    intro k
    rw [List.getElem?_set, entsA_get f' ks 0 k]
    split
    · rename_i hk; subst hk
      rw [if_pos (List.getElem?_eq_some_iff.1 hg).1, h3]; rfl
    · rename_i hk
      rw [entsA_get]
      cases hx : ks[k]? with
      | none => rfl
      | some x =>
        have hxp : x ≠ p := fun e => by
          subst e
          obtain ⟨k1, k2⟩ := List.getElem?_eq_some_iff.1 hx
          obtain ⟨j1, j2⟩ := List.getElem?_eq_some_iff.1 h3
          have hnd := List.pairwise_iff_getElem.1 hn
          rcases Nat.lt_trichotomy j k with c | c | c
          · exact hnd j k j1 k1 c (j2.trans k2.symm)
          · exact hk c
          · exact hnd k j k1 j1 c (k2.trans j2.symm)
        simp [hf x hxp]
  · rw [h2, addK, if_neg h1]
    simp only [Option.bind_some, putEnt, entsA_app, entsA, List.length_append, List.length_cons, List.length_nil, Nat.zero_add]
    rw [entsA_congr ks 0 fun x hx => hf x fun e => h1 (e ▸ hx)]
theorem entsA_mem (f : Int → AV) (l : List Int) (e : Nat × AV × AV) (h : e ∈ entsA f 0 l) : ∃ b, b < l.length ∧ e = (b, .int .i64 (l.getD b 0), f (l.getD b 0)) := by
  obtain ⟨b, hb⟩ := List.getElem?_of_mem h
  rw [entsA_get] at hb
  obtain ⟨n, h1, rfl⟩ := Option.map_eq_some_iff.1 hb
  refine ⟨b, (List.getElem?_eq_some_iff.1 h1).1, ?_⟩
  rw [List.getD_eq_getElem?_getD, h1]; simp
theorem entsA_at (f : Int → AV) : ∀ (l : List Int) (i b : Nat), b < l.length → (entsA f i l).find? (·.1 == i + b) = some (i + b, .int .i64 (l.getD b 0), f (l.getD b 0))
  | [], _, _, h => by simp at h
  | n :: r, i, 0, h => by simp [entsA]
  | n :: r, i, b + 1, h => by
    rw [entsA, List.find?_cons_of_neg (by simp), show i + (b + 1) = i + 1 + b from by omega, entsA_at f r (i + 1) b (by simpa using h)]
    simp
end Go.Proofs.Ytelehpccfaedjaa
