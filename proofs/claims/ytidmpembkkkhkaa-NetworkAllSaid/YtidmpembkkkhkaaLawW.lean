/- What happens to links: only what was sent lies in them. No conditions. -/
import Derived.Test.YtidmpembkkkhkaaLawU
set_option linter.unusedSimpArgs false
set_option linter.unusedVariables false
namespace Go.Proofs.Ytidmpembkkkhkaa
open Go Go.Proofs Go.Abs

structure SentOK (n : Nt) (S : List Pk) (c : Nat) : Prop where
  ok : checkF n = 0
  sub : ∀ p ∈ n.q, p ∈ S
  cut : n.a ≠ [] → 0 < c
  len : n.a.length ≤ 276

theorem send_err {n : Nt} {p : Pk} (h : (sendF n p).2 ≠ 0) : (sendF n p).1 = zN := by
  by_cases h1 : checkF n = 0 <;> by_cases h2 : packetF p = true <;> by_cases h3 : n.q.length = 4096 <;> simp_all [sendF]
theorem send_ok {n : Nt} {p : Pk} (h : (sendF n p).2 = 0) : (sendF n p).1 = ⟨n.q ++ [p], n.a⟩ ∧ checkF (sendF n p).1 = 0 := by
  unfold sendF at *
  split at h
  · split at h
    · split at h
      · cases h
      · rename_i h1 h2 h3
        rw [if_pos h1, if_pos h2, if_neg h3]
        exact ⟨rfl, check_app h1 h2 h3⟩
    · cases h
  · cases h
theorem ask_err {n : Nt} {i : Int} (h : askF n i = 0) : ∃ k : Nat, i = k ∧ k < n.q.length := by
  obtain ⟨_, h2, h3, _⟩ := ask_ok h
  exact ⟨i.toNat, by omega, by omega⟩
theorem happens_err {n : Nt} {m : Mv} (h : (happensF n m).2.2 ≠ 0) : (happensF n m).1 = zN := by
  unfold happensF at *
  split at h
  · rename_i h1; rw [if_pos h1]; exact send_err h
  rename_i h1; rw [if_neg h1]
  split at h
  · rename_i h2; rw [if_pos h2]
    unfold deliverF at *
    split at h
    · exact absurd rfl h
    · rename_i h3; rw [if_neg h3]
  rename_i h2; rw [if_neg h2]
  split at h
  · rename_i h2; rw [if_pos h2]
    unfold loseF at *
    split at h
    · exact absurd rfl h
    · rename_i h3; rw [if_neg h3]
  rename_i h2; rw [if_neg h2]
  split at h
  · rename_i h2; rw [if_pos h2]
    unfold repeatF at *
    split at h
    · rename_i h3; rw [if_pos h3]; exact send_err h
    · rename_i h3; rw [if_neg h3]
  rename_i h2; rw [if_neg h2]
  have cut : ∀ on, (cutF n (m.a.tmod 24) (m.b.tmod 24) on).2 ≠ 0 → (cutF n (m.a.tmod 24) (m.b.tmod 24) on).1 = zN := fun on h => by
    unfold cutF at *
    split at h
    · split at h
      · exact absurd rfl h
      · rename_i h3 h4; rw [if_pos h3, if_neg h4]
    · rename_i h3; rw [if_neg h3]
  split at h
  · rename_i h2; rw [if_pos h2]; exact cut _ h
  · rename_i h2; rw [if_neg h2]; exact cut _ h
theorem cut_nil (c : Int × Int) : cutL [] c false = [] := by
  unfold cutL
  refine List.filter_eq_nil_iff.2 fun x _ => ?_
  simp [keepL]
theorem without_sent {n : Nt} {S : List Pk} {c k : Nat} (hI : SentOK n S c) : SentOK (withoutF n k) S c :=
  ⟨check_without hI.ok, fun p hp => by
    rcases List.mem_append.1 hp with hp | hp
    · exact hI.sub p (List.mem_of_mem_take hp)
    · exact hI.sub p (List.mem_of_mem_drop hp), hI.cut, hI.len⟩
theorem pk_sent {n : Nt} {S : List Pk} {c k : Nat} (hI : SentOK n S c) (hk : k < n.q.length) : pkAt n k ∈ S := by
  rw [(pk0 hI.ok hk).1]
  refine hI.sub _ ?_
  simp [List.getD_eq_getElem?_getD, hk]
theorem happens_ok {n : Nt} {m : Mv} {S : List Pk} {c : Nat} (hI : SentOK n S c) (h : (happensF n m).2.2 = 0) :
    (m.k.tmod 6 = 0 → ∃ p, (happensF n m).1 = ⟨n.q ++ [p], n.a⟩ ∧ SentOK (happensF n m).1 (S ++ [p]) c) ∧
    (m.k.tmod 6 ≠ 0 → m.k.tmod 6 ≠ 4 → SentOK (happensF n m).1 S c) ∧
    (m.k.tmod 6 = 4 → SentOK (happensF n m).1 S (c + 1)) ∧
    (m.k.tmod 6 = 1 → ((happensF n m).2.1 = zK ∧ 0 < c) ∨ (happensF n m).2.1 ∈ S) := by
  unfold happensF at *
  split at h
  · rename_i h1
    simp only [if_pos h1]
    obtain ⟨e1, e2⟩ := send_ok h
    refine ⟨fun _ => ⟨_, e1, ⟨e2, ?_, ?_, ?_⟩⟩, fun e => absurd h1 e, fun e => by omega, fun e => by omega⟩
    · rw [e1]
      intro p hp
      rcases List.mem_append.1 hp with hp | hp
      · exact List.mem_append_left _ (hI.sub p hp)
      · exact List.mem_append_right _ hp
    · rw [e1]; exact hI.cut
    · rw [e1]; exact hI.len
  rename_i h0
  simp only [if_neg h0]
  split at h
  · rename_i h1
    simp only [if_pos h1]
    refine ⟨fun e => absurd e h0, fun _ _ => ?_, fun e => by omega, fun _ => ?_⟩
    all_goals
      unfold deliverF at *
      split at h
      · rename_i h3
        obtain ⟨k, hk, hlt⟩ := ask_err h3
        rw [if_pos h3, hk]
        first
          | exact without_sent hI
          | (split
             · rename_i hm
               left
               exact ⟨rfl, hI.cut (fun e => by rw [e] at hm; cases hm)⟩
             · right
               exact pk_sent hI hlt)
      · rename_i h3; exact absurd h h3
  rename_i h1
  simp only [if_neg h1]
  split at h
  · rename_i h1
    simp only [if_pos h1]
    refine ⟨fun e => absurd e h0, fun _ _ => ?_, fun e => by omega, fun _ => by omega⟩
    unfold loseF at *
    split at h
    · rename_i h3; rw [if_pos h3]; exact without_sent hI
    · rename_i h3; exact absurd h h3
  rename_i h2
  simp only [if_neg h2]
  split at h
  · rename_i h1
    simp only [if_pos h1]
    refine ⟨fun e => absurd e h0, fun _ _ => ?_, fun e => by omega, fun _ => by omega⟩
    unfold repeatF at *
    split at h
    · rename_i h3
      obtain ⟨k, hk, hlt⟩ := ask_err h3
      rw [if_pos h3]
      obtain ⟨e1, e2⟩ := send_ok h
      refine ⟨e2, ?_, ?_, ?_⟩
      · rw [e1, hk]
        intro p hp
        rcases List.mem_append.1 hp with hp | hp
        · exact hI.sub p hp
        · rw [List.mem_singleton.1 hp]; exact pk_sent hI hlt
      · rw [e1]; exact hI.cut
      · rw [e1]; exact hI.len
    · rename_i h3; exact absurd h h3
  rename_i h3
  simp only [if_neg h3]
  split at h
  · rename_i h1
    simp only [if_pos h1]
    refine ⟨fun e => absurd e h0, fun _ e => absurd h1 e, fun _ => ?_, fun e => by omega⟩
    have hv : validF (betw (m.a.tmod 24) (m.b.tmod 24)) = true := by
      cases hv : validF (betw (m.a.tmod 24) (m.b.tmod 24)) with
      | true => rfl
      | false => simp [cutF, hI.ok, hv] at h
    rw [cut0 _ hI.ok hv]
    exact ⟨cut_check hI.ok _ _, hI.sub, fun _ => Nat.succ_pos _, cutL_len _ _ _⟩
  · rename_i h4
    simp only [if_neg h4]
    refine ⟨fun e => absurd e h0, fun _ _ => ?_, fun e => absurd e h4, fun e => absurd e h1⟩
    have hv : validF (betw (m.a.tmod 24) (m.b.tmod 24)) = true := by
      cases hv : validF (betw (m.a.tmod 24) (m.b.tmod 24)) with
      | true => rfl
      | false => simp [cutF, hI.ok, hv] at h
    rw [cut0 _ hI.ok hv]
    refine ⟨cut_check hI.ok _ _, hI.sub, fun e => hI.cut fun e' => e ?_, cutL_len _ _ _⟩
    show cutL n.a _ false = []
    rw [e', cut_nil]
theorem happens_len {n : Nt} {m : Mv} (h : (happensF n m).2.2 = 0) (hI : checkF n = 0) : (happensF n m).1.q.length ≤ n.q.length + 1 := by
  have hw : ∀ k, (withoutF n k).q.length ≤ n.q.length + 1 := fun k => by simp [withoutF]; omega
  unfold happensF at *
  split at h
  · rename_i h1; rw [if_pos h1, (send_ok h).1]; simp
  rename_i h1; rw [if_neg h1]
  split at h
  · rename_i h2; rw [if_pos h2]
    unfold deliverF at *
    split at h
    · rename_i h3; rw [if_pos h3]; exact hw _
    · rename_i h3; exact absurd h h3
  rename_i h2; rw [if_neg h2]
  split at h
  · rename_i h2; rw [if_pos h2]
    unfold loseF at *
    split at h
    · rename_i h3; rw [if_pos h3]; exact hw _
    · rename_i h3; exact absurd h h3
  rename_i h2; rw [if_neg h2]
  split at h
  · rename_i h2; rw [if_pos h2]
    unfold repeatF at *
    split at h
    · rename_i h3; rw [if_pos h3, (send_ok h).1]; simp
    · rename_i h3; exact absurd h h3
  rename_i h2; rw [if_neg h2]
  have cut : ∀ on, (cutF n (m.a.tmod 24) (m.b.tmod 24) on).1.q.length ≤ n.q.length + 1 := fun on => by
    unfold cutF
    rw [if_pos hI]
    split
    · simp
    · simp [zN]
  split at h
  · rename_i h2; rw [if_pos h2]; exact cut _
  · rename_i h2; rw [if_neg h2]; exact cut _
end Go.Proofs.Ytidmpembkkkhkaa
