/- Texts joined: UnK, UnL. No conditions. -/
import Derived.Test.YtjdhgaflenhljaaGreatDoorMrHG
/- The law Later. No conditions. -/
set_option linter.unusedSimpArgs false
set_option linter.unusedVariables false
namespace Go.Proofs.YtjdhgaflenhljaaGreatDoor
open Go Go.Proofs Go.Abs

theorem judges_len {l : List Vs} {begun at_ kn : Int} (hc : chkAll l = 0 → l.length ≤ 12) : (judgesF l begun at_ kn).1.length ≤ 12 := by
  rw [judgesF]
  split
  · simp
  rename_i h0
  have h0' : chkAll l = 0 := by simpa using h0
  split
  · rw [judF]
    split
    · simp
    have hG := chkAll_ok h0'
    have hm : (metV l begun at_ kn).length ≤ 12 := by
      have := (inF_I begun kn l (fun x hx => (hG.x x hx).2.1)).n
      have hk : (keysF l begun at_ kn).length ≤ (So.sortI (inF begun kn l).ks).length := (List.takeWhile_sublist _).length_le
      rw [(So.sortI_perm _).length_eq] at hk
      have := hc h0'
      rw [metV, List.length_map]; omega
    simp only [(So.sortI_perm _).length_eq, List.length_map]
    rw [jdgF]
    split
    · split
      · rw [List.length_take]; omega
      · simp
    split
    · rw [List.length_drop]; omega
    · exact hm
  · simp
end Go.Proofs.YtjdhgaflenhljaaGreatDoor

/- Which versions judge, plainly. No conditions. -/
set_option linter.unusedSimpArgs false
set_option linter.unusedVariables false
namespace Go.Proofs.YtjdhgaflenhljaaGreatDoor
open Go Go.Proofs Go.Abs

theorem pw_lt {l : List Int} (h1 : l.Pairwise (· ≤ ·)) (h2 : l.Nodup) : l.Pairwise (· < ·) := by
  have := h1.and h2
  exact this.imp fun {a b} h => by have := h.2; omega
section
variable {l : List Vs} {begun at_ kn : Int}
theorem keys_mem (k : Int) : k ∈ keysF l begun at_ kn ↔ k ∈ (inF begun kn l).ks ∧ k ≤ at_ := by
  rw [keysF_eq, (So.sortI_perm _).mem_iff, List.mem_filter, decide_eq_true_eq]
theorem keys_pw (hG : VsG l) : (keysF l begun at_ kn).Pairwise (· < ·) := by
  have I := inF_I begun kn l fun x hx => (hG.x x hx).2.1
  rw [keysF_eq]
  exact pw_lt (So.sortI_le _) ((So.sortI_perm _).nodup_iff.2 (I.nd.sublist List.filter_sublist))
theorem key_force (hG : VsG l) {k : Int} (hk : k ∈ keysF l begun at_ kn) : begun ≤ k ∧ k ≤ at_ ∧ forceV k kn l = some ((inF begun kn l).f k) ∧ (inF begun kn l).f k ∈ l := by
  have I := inF_I begun kn l fun x hx => (hG.x x hx).2.1
  obtain ⟨h1, h2⟩ := (keys_mem k).1 hk
  have h3 := I.f k h1
  exact ⟨I.ge k h1, h2, h3, (force_mem h3).1⟩
theorem key_tm (hG : VsG l) {k : Int} (hk : k ∈ keysF l begun at_ kn) (hb : begun < k) : ((inF begun kn l).f k).tm = k := by
  have I := inF_I begun kn l fun x hx => (hG.x x hx).2.1
  exact I.ftm ((keys_mem k).1 hk).1 hb
theorem force_key (hG : VsG l) {t : Int} {y : Vs} (ht : begun ≤ t ∧ t ≤ at_) (hy : forceV t kn l = some y) : ∃ k ∈ keysF l begun at_ kn, (inF begun kn l).f k = y ∧ (k = begun ∨ (k = y.tm ∧ begun < y.tm)) := by
  have I := inF_I begun kn l fun x hx => (hG.x x hx).2.1
  obtain ⟨h1, h2, h3⟩ := force_mem hy
  have mx : ∀ x ∈ l, x.kn ≤ kn → x.tm ≤ t → x.tm ≤ y.tm := fun x hx k1 k2 => by
    obtain ⟨z, k3, k4⟩ := force_max hx k2 k1
    rw [hy] at k3; cases k3; exact k4
  by_cases hb : begun < y.tm
  · have hk : y.tm ∈ (inF begun kn l).ks := (I.gt y.tm hb).2 ⟨y, h1, h3, rfl⟩
    have hf : forceV y.tm kn l = forceV t kn l := force_same fun x hx k1 => ⟨fun k2 => by omega, fun k2 => mx x hx k1 k2⟩
    refine ⟨y.tm, (keys_mem _).2 ⟨hk, by omega⟩, ?_, .inr ⟨rfl, hb⟩⟩
    have := I.f _ hk
    rw [hf, hy] at this
    exact (Option.some.inj this).symm
  · have hf : forceV begun kn l = forceV t kn l := force_same fun x hx k1 => ⟨fun k2 => by omega, fun k2 => by have := mx x hx k1 k2; omega⟩
    have hk : begun ∈ (inF begun kn l).ks := I.z.2 (by rw [hf, hy]; rfl)
    refine ⟨begun, (keys_mem _).2 ⟨hk, by omega⟩, ?_, .inl rfl⟩
    have := I.f _ hk
    rw [hf, hy] at this
    exact (Option.some.inj this).symm
theorem no_inj (hG : VsG l) {x y : Vs} (hx : x ∈ l) (hy : y ∈ l) (h : x.no = y.no) : x = y := by
  obtain ⟨i, hi, rfl⟩ := List.mem_iff_getElem.1 hx
  obtain ⟨j, hj, rfl⟩ := List.mem_iff_getElem.1 hy
  have hp := List.pairwise_iff_getElem.1 hG.inc
  rcases Nat.lt_trichotomy i j with c | c | c
  · have := hp i j hi hj c; omega
  · subst c; rfl
  · have := hp j i hj hi c; omega
theorem met_nodup (hG : VsG l) : ((metV l begun at_ kn).map Vs.no).Nodup := by
  rw [metV, List.map_map]
  refine List.pairwise_map.2 ((keys_pw hG).imp_of_mem fun {a b} ha hb hab e => ?_)
  obtain ⟨a1, a2, a3, a4⟩ := key_force hG ha
  obtain ⟨b1, b2, b3, b4⟩ := key_force hG hb
  have h1 := no_inj hG a4 b4 e
  have h2 := key_tm hG hb (by omega)
  have h3 := (force_mem a3).2.1
  rw [h1, h2] at h3
  omega
/-- The last version met is the one in force at the end. -/
theorem met_last (hG : VsG l) (hb : begun ≤ at_) {k : Int} (hk : (keysF l begun at_ kn).getLast? = some k) : forceV at_ kn l = some ((inF begun kn l).f k) := by
  have I := inF_I begun kn l fun x hx => (hG.x x hx).2.1
  have hkm := List.mem_of_getLast? hk
  obtain ⟨k1, k2, k3, k4⟩ := key_force hG hkm
  rw [← k3]
  refine force_same fun x hx h1 => ⟨fun h2 => ?_, fun h2 => by omega⟩
  by_cases h3 : begun < x.tm
  · have h4 : x.tm ∈ keysF l begun at_ kn := (keys_mem _).2 ⟨(I.gt x.tm h3).2 ⟨x, hx, h1, rfl⟩, h2⟩
    obtain ⟨q, hq⟩ := List.mem_iff_getElem?.1 h4
    have hq1 := (List.getElem?_eq_some_iff.1 hq).1
    rw [List.getLast?_eq_getElem?] at hk
    rcases Nat.lt_or_ge q ((keysF l begun at_ kn).length - 1) with c | c
    · obtain ⟨e1, e2⟩ := List.getElem?_eq_some_iff.1 hq
      obtain ⟨e3, e4⟩ := List.getElem?_eq_some_iff.1 hk
      have := List.pairwise_iff_getElem.1 (keys_pw hG) q _ e1 e3 c
      omega
    · have : q = (keysF l begun at_ kn).length - 1 := by omega
      subst this
      rw [hk] at hq; cases hq; exact Int.le_refl _
  · omega
theorem met_none (hG : VsG l) (hb : begun ≤ at_) : metV l begun at_ kn = [] ↔ forceV at_ kn l = none := by
  constructor
  · intro h
    cases hf : forceV at_ kn l with
    | none => rfl
    | some y =>
      obtain ⟨k, h1, _⟩ := force_key hG ⟨hb, Int.le_refl _⟩ hf
      rw [metV] at h
      have := List.map_eq_nil_iff.1 h
      rw [this] at h1; cases h1
  · intro h
    cases hk : (keysF l begun at_ kn).getLast? with
    | none => rw [metV, List.getLast?_eq_none_iff.1 hk]; rfl
    | some k =>
      have := met_last hG hb hk
      rw [h] at this; cases this
/-- The versions met, by the one in force at the end. -/
theorem met_some (hG : VsG l) (hb : begun ≤ at_) {y : Vs} (hy : forceV at_ kn l = some y) : metV l begun at_ kn ≠ [] ∧ modeL (metV l begun at_ kn) = y.p.mode ∧ (metV l begun at_ kn).drop ((metV l begun at_ kn).length - 1) = [y] := by
  have h0 : metV l begun at_ kn ≠ [] := fun e => by rw [(met_none hG hb).1 e] at hy; cases hy
  have hl : (metV l begun at_ kn).getLast? = some y := by
    rw [metV, List.getLast?_map]
    cases hk : (keysF l begun at_ kn).getLast? with
    | none => rw [metV, List.getLast?_eq_none_iff.1 hk] at h0; exact absurd rfl h0
    | some k =>
      have := met_last hG hb hk
      rw [hy] at this
      rw [Option.map_some, ← Option.some.inj this]
  refine ⟨h0, by rw [modeL, hl]; rfl, ?_⟩
  rw [List.getLast?_eq_getElem?] at hl
  obtain ⟨e1, e2⟩ := List.getElem?_eq_some_iff.1 hl
  rw [List.drop_eq_getElem_cons e1, e2, List.drop_eq_nil_of_le (by omega)]
/-- Whether the version at the beginning is met, and that it is the first. -/
theorem met_first (hG : VsG l) (hb : begun ≤ at_) : (begun ∈ keysF l begun at_ kn ↔ (forceV begun kn l).isSome) ∧ ∀ y, forceV begun kn l = some y → (metV l begun at_ kn).take 1 = [y] := by
  have I := inF_I begun kn l fun x hx => (hG.x x hx).2.1
  have h1 : begun ∈ keysF l begun at_ kn ↔ (forceV begun kn l).isSome := by rw [keys_mem, I.z]; exact ⟨fun h => h.1, fun h => ⟨h, hb⟩⟩
  refine ⟨h1, fun y hy => ?_⟩
  have h2 := h1.2 (by rw [hy]; rfl)
  have hp := keys_pw hG (begun := begun) (at_ := at_) (kn := kn)
  have hge : ∀ k ∈ keysF l begun at_ kn, begun ≤ k := fun k hk => (key_force hG hk).1
  rw [metV]
  cases hk : keysF l begun at_ kn with
  | nil => rw [hk] at h2; cases h2
  | cons a r =>
    have ha : a = begun := by
      rw [hk] at h2 hp hge
      rcases List.mem_cons.1 h2 with rfl | h3
      · rfl
      · have := (List.pairwise_cons.1 hp).1 begun h3
        have := hge a (by simp)
        omega
    have h3 := (key_force hG (begun := begun) (at_ := at_) (kn := kn) (k := a) (by rw [hk]; simp)).2.2.1
    rw [ha, hy] at h3
    rw [ha, List.map_cons, ← Option.some.inj h3]; rfl
/-- Whose numbers judge where all versions judge. -/
theorem met_no (hG : VsG l) (n : Int) : n ∈ (metV l begun at_ kn).map Vs.no ↔ (∃ y, begun ≤ at_ ∧ forceV begun kn l = some y ∧ y.no = n) ∨ ∃ x ∈ l, begun < x.tm ∧ x.tm ≤ at_ ∧ ∃ y, forceV x.tm kn l = some y ∧ y.no = n := by
  have I := inF_I begun kn l fun x hx => (hG.x x hx).2.1
  rw [metV, List.map_map, List.mem_map]
  constructor
  · rintro ⟨k, hk, rfl⟩
    obtain ⟨k1, k2, k3, k4⟩ := key_force hG hk
    rcases Int.lt_or_eq_of_le k1 with h | rfl
    · obtain ⟨x, h1, h2, h3⟩ := (I.gt k h).1 ((keys_mem k).1 hk).1
      exact .inr ⟨x, h1, by omega, by omega, _, by rw [h3]; exact k3, rfl⟩
    · exact .inl ⟨_, k2, k3, rfl⟩
  · rintro (⟨y, h1, h2, rfl⟩ | ⟨x, hx, h1, h2, y, h3, rfl⟩)
    · obtain ⟨k, hk, e, _⟩ := force_key hG ⟨Int.le_refl _, h1⟩ h2
      exact ⟨k, hk, by simp [e]⟩
    · obtain ⟨k, hk, e, _⟩ := force_key hG (begun := begun) (at_ := at_) ⟨by omega, h2⟩ h3
      exact ⟨k, hk, by simp [e]⟩
end
end Go.Proofs.YtjdhgaflenhljaaGreatDoor
