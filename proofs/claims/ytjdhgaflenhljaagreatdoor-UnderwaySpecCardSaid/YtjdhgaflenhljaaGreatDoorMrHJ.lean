/- Texts joined: UnM, UnN. No conditions. -/
import Derived.Test.YtjdhgaflenhljaaGreatDoorMrHI
/- The law More. No conditions. -/
set_option linter.unusedSimpArgs false
set_option linter.unusedVariables false
namespace Go.Proofs.YtjdhgaflenhljaaGreatDoor
open Go Go.Proofs Go.Abs

section
variable {P : Program} {Γ : Nat → Option (List AV)} {N : Nat} {σ : Tm} {h : AH} {Q : Exit → Tm → AH → Prop}
/-- What is gathered, where code runs off its end. -/
def gotU (kp : List Nat) (G : Tm → AH → Prop) : Exit → Tm → AH → Prop
  | .normal, σ, h => G (keep kp σ) h
  | _, _, _ => False
@[go_sem] theorem gotU_normal (kp : List Nat) (G : Tm → AH → Prop) : gotU kp G .normal σ h = G (keep kp σ) h := (rfl)
theorem awp_gotU {c d : Code} (kp : List Nat) (G : Tm → AH → Prop) (H : AWP P Γ N c (gotU kp G) σ h) (T : ∀ σ h, G σ h → AWP P Γ N d Q σ h) : AWP P Γ N (.seq c d) Q σ h :=
  awp_seq (H.mono fun e σ h he => by
    cases e with
    | normal => exact AWP.keep kp (T _ _ he)
    | _ => exact he.elim)
end
end Go.Proofs.YtjdhgaflenhljaaGreatDoor

/- The law Force. No conditions. -/
set_option linter.unusedSimpArgs false
set_option linter.unusedVariables false
namespace Go.Proofs.YtjdhgaflenhljaaGreatDoor
open Go Go.Proofs Go.Abs

theorem perm_ext {a b : List Int} (ha : a.Nodup) (hb : b.Nodup) (h : ∀ n, n ∈ a ↔ n ∈ b) : a.Perm b := (List.perm_ext_iff_of_nodup ha hb).2 h
/-- All versions judge: whose numbers. -/
theorem jud_all {l : List Vs} {begun at_ kn : Int} (hG : VsG l) (hb : begun ≤ at_) {y : Vs} (hy : forceV at_ kn l = some y) (h1 : y.p.mode ≠ 1) (h2 : y.p.mode ≠ 2) :
    (judF l begun at_ kn).1.Pairwise (· < ·) ∧ (∀ n, n ∈ (judF l begun at_ kn).1 ↔ n ∈ (metV l begun at_ kn).map Vs.no) := by
  obtain ⟨h0, hm, _⟩ := met_some hG hb hy
  have e : (judF l begun at_ kn).1 = So.sortI ((metV l begun at_ kn).map Vs.no) := by
    rw [judF, if_neg h0, hm]
    simp only
    rw [jdgF, if_neg h1, if_neg h2]
  rw [e]
  exact ⟨pw_lt (So.sortI_le _) ((So.sortI_perm _).nodup_iff.2 (met_nodup hG)), fun n => (So.sortI_perm _).mem_iff⟩
structure MetM (l : List Vs) (begun at_ kn : Int) (don : List Vs) (m : List Int) : Prop where
  nd : m.Nodup
  mem : ∀ n, n ∈ m ↔ (∃ y, forceV begun kn l = some y ∧ y.no = n) ∨ ∃ x ∈ don, begun < x.tm ∧ x.tm ≤ at_ ∧ ∃ y, forceV x.tm kn l = some y ∧ y.no = n
  n : m.length ≤ don.length + 1
theorem MetM.skip {l don : List Vs} {begun at_ kn : Int} {m : List Int} {x : Vs} (H : MetM l begun at_ kn don m) (h : ∀ y, begun < x.tm → x.tm ≤ at_ → forceV x.tm kn l = some y → y.no ∈ m) : MetM l begun at_ kn (don ++ [x]) m := by
  refine ⟨H.nd, fun n => ⟨fun hn => ?_, fun hn => ?_⟩, by have := H.n; simp; omega⟩
  · rcases (H.mem n).1 hn with h1 | ⟨z, hz, h1⟩
    · exact .inl h1
    · exact .inr ⟨z, by simp [hz], h1⟩
  · rcases hn with h1 | ⟨z, hz, h1, h2, y, h3, rfl⟩
    · exact (H.mem n).2 (.inl h1)
    · rcases List.mem_append.1 hz with hz | hz
      · exact (H.mem _).2 (.inr ⟨z, hz, h1, h2, y, h3, rfl⟩)
      · rw [List.mem_singleton] at hz; subst hz; exact h y h1 h2 h3
theorem MetM.add {l don : List Vs} {begun at_ kn : Int} {m : List Int} {x y : Vs} (H : MetM l begun at_ kn don m) (h1 : begun < x.tm) (h2 : x.tm ≤ at_) (h3 : forceV x.tm kn l = some y) (h4 : y.no ∉ m) : MetM l begun at_ kn (don ++ [x]) (m ++ [y.no]) := by
  refine ⟨?_, fun n => ?_, by have := H.n; simp; omega⟩
  · rw [List.nodup_append]
    exact ⟨H.nd, by simp, fun a ha b hb e => h4 (by simp at hb; rw [← hb, ← e]; exact ha)⟩
  · rw [List.mem_append, List.mem_singleton, H.mem]
    constructor
    · rintro ((k1 | ⟨z, hz, k1⟩) | rfl)
      · exact .inl k1
      · exact .inr ⟨z, by simp [hz], k1⟩
      · exact .inr ⟨x, by simp, h1, h2, y, h3, rfl⟩
    · rintro (k1 | ⟨z, hz, k1, k2, w, k3, rfl⟩)
      · exact .inl (.inl k1)
      · rcases List.mem_append.1 hz with hz | hz
        · exact .inl (.inr ⟨z, hz, k1, k2, w, k3, rfl⟩)
        · rw [List.mem_singleton] at hz; subst hz
          rw [h3] at k3; cases k3; exact .inr rfl
theorem jud_old {l : List Vs} {begun at_ kn : Int} (hG : VsG l) (hb : begun ≤ at_) {y : Vs} (hy : forceV at_ kn l = some y) (h1 : y.p.mode = 1) : (forceV begun kn l = none → (judF l begun at_ kn).1 = []) ∧ ∀ z, forceV begun kn l = some z → (judF l begun at_ kn).1 = [z.no] := by
  obtain ⟨h0, hm, _⟩ := met_some hG hb hy
  obtain ⟨f1, f2⟩ := met_first (at_ := at_) (kn := kn) hG hb
  have e : (judF l begun at_ kn).1 = So.sortI ((jdgF 1 (decide (begun ∈ keysF l begun at_ kn)) (metV l begun at_ kn)).map Vs.no) := by
    rw [judF, if_neg h0, hm, h1]
  rw [e, jdgF, if_pos rfl]
  refine ⟨fun hn => ?_, fun z hz => ?_⟩
  · have : begun ∉ keysF l begun at_ kn := fun e => by have := f1.1 e; rw [hn] at this; cases this
    rw [decide_eq_false this]; rfl
  · rw [decide_eq_true (f1.2 (by rw [hz]; rfl)), if_pos rfl, f2 z hz]; rfl
theorem jud_new {l : List Vs} {begun at_ kn : Int} (hG : VsG l) (hb : begun ≤ at_) {y : Vs} (hy : forceV at_ kn l = some y) (h1 : y.p.mode = 2) : (judF l begun at_ kn).1 = [y.no] := by
  obtain ⟨h0, hm, h2⟩ := met_some hG hb hy
  have e : (judF l begun at_ kn).1 = So.sortI ((jdgF 2 (decide (begun ∈ keysF l begun at_ kn)) (metV l begun at_ kn)).map Vs.no) := by
    rw [judF, if_neg h0, hm, h1]
  rw [e, jdgF, if_neg (by decide), if_pos rfl, h2]; rfl
end Go.Proofs.YtjdhgaflenhljaaGreatDoor
