/- Texts joined: PerP. No conditions. -/
import Derived.Test.YtmdiebdplakccaaDoorMrEL
/- More people, holders, weights: plain. No conditions. -/
set_option linter.unusedSimpArgs false
set_option linter.unusedVariables false
namespace Go.Proofs.YtmdiebdplakccaaDoor
open Go Go.Proofs Go.Abs

theorem cnt_mono {f g : Ex → Bool} : ∀ {l : List Ex}, (∀ y ∈ l, f y = true → g y = true) → cntT (l.map f) ≤ cntT (l.map g)
  | [], _ => Int.le_refl _
  | y :: r, h => by
    have h1 := h y (by simp)
    have h2 := cnt_mono (l := r) fun z hz => h z (by simp [hz])
    rw [List.map_cons, List.map_cons, cntT, cntT]
    cases hf : f y
    · cases hg : g y <;> simp <;> omega
    · rw [h1 hf]; simp; omega
theorem ful_mono_k {v : Int} {hs hs2 : List (List Hd)} {w1 w2 : List Int} (hA : ∀ no, anyH w1 (rowH hs no) = true → anyH w2 (rowH hs2 no) = true) (hS : ∀ no, sumH w1 (rowH hs no) ≤ sumH w2 (rowH hs2 no)) : ∀ (m : Nat) (x : Ex), SizeOf.sizeOf x < m → fulF v hs w1 x = true → fulF v hs2 w2 x = true
  | 0, _, hk, _ => absurd hk (Nat.not_lt_zero _)
  | m + 1, x, hsz, hf => by
    have ih : ∀ y ∈ x.l, fulF v hs w1 y = true → fulF v hs2 w2 y = true := fun y hy => ful_mono_k hA hS m y (by cases x; exact memX_sz hy hsz)
    rw [fulF_eq] at hf ⊢
    by_cases e1 : x.k = 1
    · rw [if_pos e1] at hf ⊢; exact hA _ hf
    by_cases e2 : x.k = 2
    · rw [if_neg e1, if_pos e2, decide_eq_true_eq] at hf ⊢; have := hS x.no; omega
    by_cases e3 : x.k = 3
    · rw [if_neg e1, if_neg e2, if_pos e3, decide_eq_true_eq] at hf ⊢; have := cnt_mono ih; omega
    · rw [if_neg e1, if_neg e2, if_neg e3, List.getD_eq_getElem?_getD, List.getElem?_map] at hf ⊢
      cases hg : x.l[if v ≤ x.n then 0 else 1]? with
      | none => rw [hg] at hf; simp at hf
      | some y => rw [hg] at hf; exact ih y (List.mem_of_getElem? hg) (by simpa using hf)
theorem ful_mono {v : Int} {hs hs2 : List (List Hd)} {w1 w2 : List Int} (hA : ∀ no, anyH w1 (rowH hs no) = true → anyH w2 (rowH hs2 no) = true) (hS : ∀ no, sumH w1 (rowH hs no) ≤ sumH w2 (rowH hs2 no)) {x : Ex} (hf : fulF v hs w1 x = true) : fulF v hs2 w2 x = true := ful_mono_k hA hS _ x (Nat.lt_succ_self _) hf
/-! ### More people -/
def withF (who : List Int) (n : Int) : List Int := who.filter (fun i => decide (i < n)) ++ n :: who.filter (fun i => decide (n < i))
theorem with_mem {who : List Int} {n i : Int} : i ∈ withF who n ↔ i = n ∨ i ∈ who := by
  simp only [withF, List.mem_append, List.mem_cons, List.mem_filter, decide_eq_true_eq]
  constructor
  · rintro (⟨h, _⟩ | h | ⟨h, _⟩)
    · exact .inr h
    · exact .inl h
    · exact .inr h
  · rintro (h | h)
    · exact .inr (.inl h)
    · rcases Int.lt_trichotomy i n with h1 | h1 | h1
      · exact .inl ⟨h, h1⟩
      · exact .inr (.inl h1)
      · exact .inr (.inr ⟨h, h1⟩)
theorem with_people {who : List Int} {n : Int} (h : peopleF who = true) (hn : 0 ≤ n ∧ n < 64) : peopleF (withF who n) = true := by
  rw [peopleF_iff] at h ⊢
  refine ⟨?_, fun i hi => ?_⟩
  · rw [withF, List.pairwise_append, List.pairwise_cons]
    refine ⟨h.1.filter _, ⟨fun a ha => by simpa using (List.mem_filter.1 ha).2, h.1.filter _⟩, fun a ha b hb => ?_⟩
    have h1 : a < n := by simpa using (List.mem_filter.1 ha).2
    rcases List.mem_cons.1 hb with rfl | hb
    · exact h1
    · have h2 : n < b := by simpa using (List.mem_filter.1 hb).2
      omega
  · rcases with_mem.1 hi with rfl | hi
    · exact hn
    · exact h.2 i hi
theorem with_has {who : List Int} {n m : Int} (h : hasP who m = true) : hasP (withF who n) m = true := by
  rw [hasP, decide_eq_true_eq] at h ⊢; exact with_mem.2 (.inr h)
theorem any_more {w1 w2 : List Int} (h : ∀ m, hasP w1 m = true → hasP w2 m = true) {l : List Hd} (ha : anyH w1 l = true) : anyH w2 l = true := by
  rw [anyH, List.any_eq_true] at ha ⊢
  obtain ⟨y, hy, hp⟩ := ha
  exact ⟨y, hy, h _ hp⟩
theorem sum_more {w1 w2 : List Int} (h : ∀ m, hasP w1 m = true → hasP w2 m = true) : ∀ {l : List Hd}, (∀ y ∈ l, 1 ≤ y.weight ∧ y.weight ≤ 64) → sumH w1 l ≤ sumH w2 l
  | [], _ => Int.le_refl _
  | y :: r, hw => by
    have h1 := hw y (by simp)
    have h2 := sum_more h (l := r) fun z hz => hw z (by simp [hz])
    rw [sumH, sumH]
    cases hp : hasP w1 y.person
    · cases hasP w2 y.person <;> simp <;> omega
    · rw [h _ hp]; simp; omega
theorem row_wt {hs : List (List Hd)} {n : Int} (h : holdersF hs n = true) (no : Int) : ∀ y ∈ rowH hs no, 1 ≤ y.weight ∧ y.weight ≤ 64 := fun y hy => by
  rw [holdersF, Bool.and_eq_true, List.all_eq_true] at h
  exact (line_facts (h.1 _ (rowH_in hy))).1 y hy
theorem ful_with {v : Int} {hs : List (List Hd)} {who : List Int} {n m : Int} (h : holdersF hs n = true) {x : Ex} (hf : fulF v hs who x = true) : fulF v hs (withF who m) x = true :=
  ful_mono (fun _ ha => any_more (fun _ => with_has) ha) (fun no => sum_more (fun _ => with_has) (row_wt h no)) hf
/-! ### A further holder -/
def mergeW (own : Hd) (l : List Hd) : Int := match l.find? (fun y => decide (y.person = own.person)) with
  | some y => max y.weight own.weight
  | none => own.weight
def mergeF (own : Hd) (l : List Hd) : List Hd := l.filter (fun y => decide (y.person < own.person)) ++ ⟨own.person, mergeW own l⟩ :: l.filter (fun y => decide (own.person < y.person))
def SrtH (l : List Hd) : Prop := (l.map Hd.person).Pairwise (· < ·)
theorem SrtH.split {a b : List Hd} {y : Hd} (h : SrtH (a ++ y :: b)) : SrtH a ∧ (∀ z ∈ a, z.person < y.person) := by
  rw [SrtH, List.map_append, List.map_cons, List.pairwise_append] at h
  exact ⟨h.1, fun z hz => h.2.2 _ (List.mem_map.2 ⟨z, hz, rfl⟩) _ (by simp)⟩
theorem find_none {own : Hd} {l : List Hd} (h : ∀ y ∈ l, y.person ≠ own.person) : l.find? (fun y => decide (y.person = own.person)) = none := by
  rw [List.find?_eq_none]; intro y hy; simpa using h y hy
/-- The list while it is built: nobody as far as the person, or the person put in. -/
def bldF (own : Hd) (l : List Hd) : List Hd × Bool := if l.all (fun y => decide (y.person < own.person)) then (l, false) else (mergeF own l, true)
theorem bld_lt {own : Hd} {l : List Hd} (h : ∀ y ∈ l, y.person < own.person) : bldF own l = (l, false) := by
  rw [bldF, if_pos]; rw [List.all_eq_true]; intro y hy; simpa using h y hy
theorem bld_ge {own : Hd} {l : List Hd} {y : Hd} (hy : y ∈ l) (h : own.person ≤ y.person) : bldF own l = (mergeF own l, true) := by
  rw [bldF, if_neg]; intro e; rw [List.all_eq_true] at e
  have := e y hy; rw [decide_eq_true_eq] at this; omega
theorem filter_lt_all {p : Int} {l : List Hd} (h : ∀ y ∈ l, y.person < p) : l.filter (fun y => decide (y.person < p)) = l ∧ l.filter (fun y => decide (p < y.person)) = [] :=
  ⟨List.filter_eq_self.2 fun y hy => by simpa using h y hy, List.filter_eq_nil_iff.2 fun y hy => by have := h y hy; simp; omega⟩
/-- The end: the person is put in. -/
theorem bld_end {own : Hd} {l : List Hd} (h : (bldF own l).2 = false) : mergeF own l = (bldF own l).1 ++ [own] := by
  by_cases ha : l.all (fun y => decide (y.person < own.person)) = true
  · have hlt : ∀ y ∈ l, y.person < own.person := fun y hy => by simpa using List.all_eq_true.1 ha y hy
    rw [bld_lt hlt, mergeF, (filter_lt_all hlt).1, (filter_lt_all hlt).2, mergeW, find_none fun y hy => by have := hlt y hy; omega]
  · rw [bldF, if_neg ha] at h; cases h
theorem bld_fin {own : Hd} {l : List Hd} (h : (bldF own l).2 = true) : mergeF own l = (bldF own l).1 := by
  by_cases ha : l.all (fun y => decide (y.person < own.person)) = true
  · rw [bldF, if_pos ha] at h; cases h
  · rw [bldF, if_neg ha]
/-- One more of the list. -/
theorem bld_step {own : Hd} {dn r : List Hd} {y : Hd} (hs : SrtH (dn ++ y :: r)) :
    (y.person < own.person → bldF own dn = (dn, false) ∧ bldF own (dn ++ [y]) = (dn ++ [y], false)) ∧
    (y.person = own.person → bldF own dn = (dn, false) ∧ bldF own (dn ++ [y]) = (dn ++ [⟨y.person, max y.weight own.weight⟩], true)) ∧
    (own.person < y.person → bldF own (dn ++ [y]) = ((bldF own dn).1 ++ (if (bldF own dn).2 then [] else [own]) ++ [y], true)) := by
  obtain ⟨hsd, hlt⟩ := hs.split
  refine ⟨fun h => ?_, fun h => ?_, fun h => ?_⟩
  · have h1 : ∀ z ∈ dn, z.person < own.person := fun z hz => by have := hlt z hz; omega
    exact ⟨bld_lt h1, bld_lt fun z hz => by
      rcases List.mem_append.1 hz with hz | hz
      · exact h1 z hz
      · rw [List.mem_singleton] at hz; rw [hz]; exact h⟩
  · have h1 : ∀ z ∈ dn, z.person < own.person := fun z hz => by have := hlt z hz; omega
    refine ⟨bld_lt h1, ?_⟩
    rw [bld_ge (y := y) (by simp) (by omega), mergeF, List.filter_append, List.filter_append, (filter_lt_all h1).1, (filter_lt_all h1).2, mergeW, List.find?_append, find_none fun z hz => by have := h1 z hz; omega]
    simp [List.filter_cons, h]
  · rw [bld_ge (y := y) (by simp) (by omega)]
    by_cases ha : dn.all (fun y => decide (y.person < own.person)) = true
    · have h1 : ∀ z ∈ dn, z.person < own.person := fun z hz => by simpa using List.all_eq_true.1 ha z hz
      rw [bld_lt h1, mergeF, List.filter_append, List.filter_append, (filter_lt_all h1).1, (filter_lt_all h1).2, mergeW, find_none fun z hz => by
        rcases List.mem_append.1 hz with hz | hz
        · have := h1 z hz; omega
        · rw [List.mem_singleton] at hz; rw [hz]; omega]
      simp [List.filter_cons, h, show ¬ y.person < own.person by omega]
    · have hb : bldF own dn = (mergeF own dn, true) := by rw [bldF, if_neg ha]
      rw [hb, mergeF, mergeF, List.filter_append, List.filter_append, mergeW, mergeW, List.find?_append]
      have e0 : [y].find? (fun y => decide (y.person = own.person)) = none := find_none fun z hz => by rw [List.mem_singleton] at hz; rw [hz]; omega
      rw [e0, Option.or_none]
      simp [List.filter_cons, h, show ¬ y.person < own.person by omega]
theorem two_filters (p : Int) : ∀ l : List Hd, (l.filter fun y => decide (y.person < p)).length + (l.filter fun y => decide (p < y.person)).length ≤ l.length
  | [] => Nat.le_refl _
  | y :: r => by
    have := two_filters p r
    by_cases h1 : y.person < p
    · simp only [List.filter_cons, h1, decide_true, if_true, show ¬ p < y.person by omega, decide_false, Bool.false_eq_true, if_false, List.length_cons]; omega
    · by_cases h2 : p < y.person
      · simp only [List.filter_cons, h1, h2, decide_true, if_true, decide_false, Bool.false_eq_true, if_false, List.length_cons]; omega
      · simp only [List.filter_cons, h1, h2, decide_false, Bool.false_eq_true, if_false, List.length_cons]; omega
theorem bld_len (own : Hd) (l : List Hd) : (bldF own l).1.length ≤ l.length + 1 := by
  by_cases ha : l.all (fun y => decide (y.person < own.person)) = true
  · rw [bldF, if_pos ha]; exact Nat.le_succ _
  · rw [bldF, if_neg ha]
    show (mergeF own l).length ≤ _
    rw [mergeF, List.length_append, List.length_cons]
    have := two_filters own.person l
    omega
theorem mergeW_bd {own : Hd} {l : List Hd} (ho : 1 ≤ own.weight ∧ own.weight ≤ 64) (hl : ∀ y ∈ l, 1 ≤ y.weight ∧ y.weight ≤ 64) : 1 ≤ mergeW own l ∧ mergeW own l ≤ 64 := by
  rw [mergeW]
  cases hf : l.find? (fun y => decide (y.person = own.person)) with
  | none => exact ho
  | some y => have := hl y (List.mem_of_find?_eq_some hf); simp only; omega
theorem merge_line {own : Hd} {l : List Hd} (h : lineF l = true) (hp : 0 ≤ own.person ∧ own.person < 64) (ho : 1 ≤ own.weight ∧ own.weight ≤ 64) : lineF (mergeF own l) = true := by
  obtain ⟨f1, f2, f3, f4⟩ := line_facts h
  rw [lineF, Bool.and_eq_true, List.all_eq_true, peopleF_iff]
  refine ⟨fun y hy => ?_, ?_, fun n hn => ?_⟩
  · rw [decide_eq_true_eq]
    rcases List.mem_append.1 hy with hy | hy
    · exact f1 y (List.mem_filter.1 hy).1
    · rcases List.mem_cons.1 hy with rfl | hy
      · exact mergeW_bd ho f1
      · exact f1 y (List.mem_filter.1 hy).1
  · rw [mergeF, List.map_append, List.map_cons, List.pairwise_append, List.pairwise_cons]
    have sub : ∀ q : Hd → Bool, ((l.filter q).map Hd.person).Pairwise (· < ·) := fun q => f2.sublist ((List.filter_sublist).map _)
    refine ⟨sub _, ⟨fun a ha => ?_, sub _⟩, fun a ha b hb => ?_⟩
    · obtain ⟨z, hz, rfl⟩ := List.mem_map.1 ha
      simpa using (List.mem_filter.1 hz).2
    · obtain ⟨z, hz, rfl⟩ := List.mem_map.1 ha
      have h1 : z.person < own.person := by simpa using (List.mem_filter.1 hz).2
      rcases List.mem_cons.1 hb with rfl | hb
      · exact h1
      · obtain ⟨u, hu, rfl⟩ := List.mem_map.1 hb
        have h2 : own.person < u.person := by simpa using (List.mem_filter.1 hu).2
        omega
  · obtain ⟨z, hz, rfl⟩ := List.mem_map.1 hn
    rcases List.mem_append.1 hz with hz | hz
    · exact f3 z (List.mem_filter.1 hz).1
    · rcases List.mem_cons.1 hz with rfl | hz
      · exact hp
      · exact f3 z (List.mem_filter.1 hz).1
theorem sum_three (who : List Int) (p : Int) : ∀ l : List Hd, sumH who l = sumH who (l.filter fun y => decide (y.person < p)) + sumH who (l.filter fun y => decide (y.person = p)) + sumH who (l.filter fun y => decide (p < y.person))
  | [] => rfl
  | y :: r => by
    rw [sumH, sum_three who p r]
    rcases Int.lt_trichotomy y.person p with h | h | h
    · simp only [List.filter_cons, h, decide_true, if_true, show ¬ y.person = p by omega, show ¬ p < y.person by omega, decide_false, Bool.false_eq_true, if_false, sumH]; omega
    · simp only [List.filter_cons, h, decide_true, if_true, show ¬ p < p by omega, decide_false, Bool.false_eq_true, if_false, sumH]; omega
    · simp only [List.filter_cons, h, decide_true, if_true, show ¬ y.person = p by omega, show ¬ y.person < p by omega, decide_false, Bool.false_eq_true, if_false, sumH]; omega
theorem filter_eq_one {p : Int} : ∀ {l : List Hd}, SrtH l → l.filter (fun y => decide (y.person = p)) = (l.find? fun y => decide (y.person = p)).toList
  | [], _ => rfl
  | y :: r, h => by
    rw [SrtH, List.map_cons, List.pairwise_cons] at h
    by_cases e : y.person = p
    · have : r.filter (fun y => decide (y.person = p)) = [] := List.filter_eq_nil_iff.2 fun z hz => by
        have := h.1 _ (List.mem_map.2 ⟨z, hz, rfl⟩)
        simp; omega
      simp [List.filter_cons, List.find?_cons, e, this]
    · have ih := filter_eq_one (p := p) (l := r) h.2
      simp [List.filter_cons, List.find?_cons, e, ih]
theorem sum_merge {own : Hd} {l : List Hd} (who : List Int) (hs : SrtH l) (ho : 1 ≤ own.weight) : sumH who l ≤ sumH who (mergeF own l) := by
  rw [sum_three who own.person l, mergeF, sumH_app, sumH, filter_eq_one hs, mergeW]
  cases hf : l.find? (fun y => decide (y.person = own.person)) with
  | none => simp only [Option.toList, sumH]; split <;> omega
  | some y =>
    have : y.person = own.person := by simpa using List.find?_some hf
    simp only [Option.toList, sumH, this]
    split <;> omega
theorem any_merge {own : Hd} {l : List Hd} {who : List Int} (ha : anyH who l = true) : anyH who (mergeF own l) = true := by
  rw [anyH, List.any_eq_true] at ha ⊢
  obtain ⟨y, hy, hp⟩ := ha
  rcases Int.lt_trichotomy y.person own.person with h | h | h
  · exact ⟨y, List.mem_append_left _ (List.mem_filter.2 ⟨hy, by simpa using h⟩), hp⟩
  · exact ⟨⟨own.person, mergeW own l⟩, List.mem_append_right _ (by simp), by rw [← h]; exact hp⟩
  · exact ⟨y, List.mem_append_right _ (List.mem_cons_of_mem _ (List.mem_filter.2 ⟨hy, by simpa using h⟩)), hp⟩
/-- The holders with a further one. -/
def furtherF (hs : List (List Hd)) (k : Nat) (own : Hd) : List (List Hd) := hs.set k (mergeF own (hs.getD k []))
theorem row_further (hs : List (List Hd)) (k : Nat) (own : Hd) (no : Int) (hk : k < hs.length) : rowH (furtherF hs k own) no = if no.toNat = k then mergeF own (rowH hs no) else rowH hs no := by
  rw [rowH, rowH, List.getD_eq_getElem?_getD, List.getD_eq_getElem?_getD, furtherF]
  by_cases e : no.toNat = k
  · rw [if_pos e, e, List.getElem?_set_self hk, List.getD_eq_getElem?_getD]; rfl
  · rw [if_neg e, List.getElem?_set_ne (Ne.symm e)]
theorem further_holders {hs : List (List Hd)} {n : Int} {k : Nat} {own : Hd} (h : holdersF hs n = true) (hk : k < hs.length) (hp : 0 ≤ own.person ∧ own.person < 64) (ho : 1 ≤ own.weight ∧ own.weight ≤ 64) : holdersF (furtherF hs k own) n = true := by
  rw [holdersF, Bool.and_eq_true, List.all_eq_true] at h ⊢
  refine ⟨fun l hl => ?_, by rw [furtherF, List.length_set]; exact h.2⟩
  rcases List.mem_or_eq_of_mem_set hl with hl | rfl
  · exact h.1 l hl
  · refine merge_line (h.1 _ ?_) hp ho
    rw [List.getD_eq_getElem?_getD, List.getElem?_eq_getElem hk]; exact List.getElem_mem hk
theorem ful_further {v : Int} {hs : List (List Hd)} {who : List Int} {n : Int} {k : Nat} {own : Hd} (h : holdersF hs n = true) (hk : k < hs.length) (ho : 1 ≤ own.weight) {x : Ex} (hf : fulF v hs who x = true) : fulF v (furtherF hs k own) who x = true := by
  refine ful_mono (fun no ha => ?_) (fun no => ?_) hf
  · rw [row_further hs k own no hk]; split
    · exact any_merge ha
    · exact ha
  · rw [row_further hs k own no hk]; split
    · refine sum_merge who ?_ ho
      rw [holdersF, Bool.and_eq_true, List.all_eq_true] at h
      by_cases hne : rowH hs no = []
      · rw [hne]; exact List.Pairwise.nil
      · obtain ⟨y, hy⟩ := List.exists_mem_of_ne_nil _ hne
        exact (line_facts (h.1 _ (rowH_in hy))).2.1
    · exact Int.le_refl _
end Go.Proofs.YtmdiebdplakccaaDoor
