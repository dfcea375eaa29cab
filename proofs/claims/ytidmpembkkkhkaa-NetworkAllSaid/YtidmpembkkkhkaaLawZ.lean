/- Without losses every packet is delivered once: what the statement's code hands back. No conditions. -/
import Derived.Test.YtidmpembkkkhkaaLawX
set_option linter.unusedSimpArgs false
set_option linter.unusedVariables false
namespace Go.Proofs.Ytidmpembkkkhkaa
open Go Go.Proofs Go.Abs

structure AlS where
  S : List Pk
  own : Abs.Own
  j : AH
structure AlT where
  i : Nat
  S : List Pk
  own : Abs.Own
  j : AH
theorem send_nil {S : List Pk} {p : Pk} (h : (sendF ⟨S, []⟩ p).2 = 0) : (sendF ⟨S, []⟩ p).1 = ⟨S ++ [p], []⟩ ∧ checkF ⟨S ++ [p], []⟩ = 0 := by
  obtain ⟨h1, h2⟩ := send_ok h
  exact ⟨h1, by rwa [h1] at h2⟩
set_option maxRecDepth 100000 in
theorem all_calls (Γ : Nat → Option (List AV)) (l : List Pk) (o : List UInt8) (h : AH) (ho8 : o.length ≤ 9223372036854775807) :
    ACalls Try.prog Γ 4 [.sl (l.map encK) .free, .sl (o.map encB) .free] h fun v h' => h' = h ∧ v = .bool true := by
  refine ACalls.drop ?_
  refine acalls_code (rs := [.tmp 4]) Try.func4 rfl rfl rfl rfl Ty.mixed (by kernel_rfl) ?_
  simp (disch := omega) only [go_sem, bne_self_eq_false, beq_self_eq_true, true_and, and_true, decide_true, decide_false, wrap_i64, ↓reduceIte, Nat.reduceAdd, Nat.reduceSub, Nat.reduceMul, Nat.reduceEqDiff, Nat.reduceLeDiff, Int.reduceAdd, Int.reduceSub, Int.reduceNeg, Int.reduceLT, Int.reduceLE, Int.reduceEq, Int.reduceToNat, Nat.reduceMod]
  refine ACalls.det (sane_calls Γ _) ?_
  simp (disch := omega) only [go_sem, bne_self_eq_false, beq_self_eq_true, true_and, and_true, decide_true, decide_false, wrap_i64, ↓reduceIte, Nat.reduceAdd, Nat.reduceSub, Nat.reduceMul, Nat.reduceEqDiff, Nat.reduceLeDiff, Int.reduceAdd, Int.reduceSub, Int.reduceNeg, Int.reduceLT, Int.reduceLE, Int.reduceEq, Int.reduceToNat, Nat.reduceMod, List.length_map]
  refine aIf.intro (fun hf => ?_) (fun hf => ?_) <;> simp (disch := omega) only [go_sem, bne_self_eq_false, beq_self_eq_true, true_and, and_true, decide_true, decide_false, wrap_i64, ↓reduceIte, Nat.reduceAdd, Nat.reduceSub, Nat.reduceMul, Nat.reduceEqDiff, Nat.reduceLeDiff, Int.reduceAdd, Int.reduceSub, Int.reduceNeg, Int.reduceLT, Int.reduceLE, Int.reduceEq, Int.reduceToNat, Nat.reduceMod]
  refine ACalls.det (new_calls Γ _) ?_
  simp (disch := omega) only [go_sem, bne_self_eq_false, beq_self_eq_true, true_and, and_true, decide_true, decide_false, wrap_i64, ↓reduceIte, Nat.reduceAdd, Nat.reduceSub, Nat.reduceMul, Nat.reduceEqDiff, Nat.reduceLeDiff, Int.reduceAdd, Int.reduceSub, Int.reduceNeg, Int.reduceLT, Int.reduceLE, Int.reduceEq, Int.reduceToNat, Nat.reduceMod]
  have h12 : l.length ≤ 12 := by omega
  obtain ⟨K, hK⟩ : ∃ K : List Pk → AH, K = fun S => h ++ [.row (encN ⟨S, []⟩).cells 25] := ⟨_, rfl⟩
  have Klen : ∀ n, (K n).length = h.length + 1 := by subst hK; simp
  have Kn : ∀ n (j : AH), (K n ++ j)[h.length]? = some (.row (encN ⟨n, []⟩).cells 25) := by subst hK; simp
  have Sn : ∀ n n' (j : AH), (K n ++ j).set h.length (.row (encN ⟨n', []⟩).cells 25) = K n' ++ j := by subst hK; simp
  have Kj0 : ∀ n (j R : AH), (K n ++ (j ++ R))[h.length + 1 + j.length]? = R[0]? := by intro n j R; rw [← Klen n, hget_add, hget_zero]
  have Kj : ∀ n (j R : AH) (m : Nat), (K n ++ (j ++ R))[h.length + 1 + (j.length + m)]? = R[m]? := by intro n j R m; rw [← Klen n, hget_add, hget_add]
  have Sj0 : ∀ n (j R : AH) (o : AObj), (K n ++ (j ++ R)).set (h.length + 1 + j.length) o = K n ++ (j ++ R.set 0 o) := by intro n j R o; rw [← Klen n, hset_add, hset_zero]
  have Sj : ∀ n (j R : AH) (m : Nat) (o : AObj), (K n ++ (j ++ R)).set (h.length + 1 + (j.length + m)) o = K n ++ (j ++ R.set m o) := by intro n j R m o; rw [← Klen n, hset_add, hset_add]
  have hap : ∀ (X : List Pk) (j : AH), K X ++ j = h ++ .row (encN ⟨X, []⟩).cells 25 :: j := by subst hK; simp
  have hcong : ∀ {X Y : List Pk} {j : AH} {m : Nat} {own : Abs.Own}, OwnAt (K X) j m own → OwnAt (K Y) j m own := fun ho => ho.cong (by rw [Klen, Klen])
  refine awp_loopL (β := AlS) l [0, 1, 5, 6, 7] (fun don s => [(0, .sl (l.map encK) .free), (1, .sl (o.map encB) .free), (5, .ptr (some (h.length, 0))), (6, .sl (s.S.map encK) s.own), (7, .int .i64 don.length)])
    (fun s => K s.S ++ s.j) (fun don _ s => checkF ⟨s.S, []⟩ = 0 ∧ OwnAt (K s.S) s.j s.S.length s.own ∧ s.S.length ≤ don.length)
    ⟨[], .full, []⟩ ?_ ?_ ⟨ex9, trivial, by simp⟩ Ty.mixed (by kernel_rfl) ?_ ?_
  · simp (disch := omega) only [go_sem, bne_self_eq_false, beq_self_eq_true, true_and, and_true, decide_true, decide_false, wrap_i64, ↓reduceIte, Nat.reduceAdd, Nat.reduceSub, Nat.reduceMul, Nat.reduceEqDiff, Nat.reduceLeDiff, Int.reduceAdd, Int.reduceSub, Int.reduceNeg, Int.reduceLT, Int.reduceLE, Int.reduceEq, Int.reduceToNat, Nat.reduceMod, List.map_nil]
  · subst hK; simp (disch := omega) only [go_sem, bne_self_eq_false, beq_self_eq_true, true_and, and_true, decide_true, decide_false, wrap_i64, ↓reduceIte, Nat.reduceAdd, Nat.reduceSub, Nat.reduceMul, Nat.reduceEqDiff, Nat.reduceLeDiff, Int.reduceAdd, Int.reduceSub, Int.reduceNeg, Int.reduceLT, Int.reduceLE, Int.reduceEq, Int.reduceToNat, Nat.reduceMod, encN, List.map_nil]
  · rintro don x r ⟨S, own, j⟩ rfl ⟨hI, ho, hS⟩
    simp only at hI ho hS ⊢
    have hl12 := len_mid h12
    simp (disch := omega) only [go_sem, bne_self_eq_false, beq_self_eq_true, true_and, and_true, decide_true, decide_false, wrap_i64, ↓reduceIte, Nat.reduceAdd, Nat.reduceSub, Nat.reduceMul, Nat.reduceEqDiff, Nat.reduceLeDiff, Int.reduceAdd, Int.reduceSub, Int.reduceNeg, Int.reduceLT, Int.reduceLE, Int.reduceEq, Int.reduceToNat, Nat.reduceMod, List.length_map, List.length_append, List.length_cons]
    refine aIf.pos (by omega) ?_
    simp (disch := omega) only [go_sem, bne_self_eq_false, beq_self_eq_true, true_and, and_true, decide_true, decide_false, wrap_i64, ↓reduceIte, Nat.reduceAdd, Nat.reduceSub, Nat.reduceMul, Nat.reduceEqDiff, Nat.reduceLeDiff, Int.reduceAdd, Int.reduceSub, Int.reduceNeg, Int.reduceLT, Int.reduceLE, Int.reduceEq, Int.reduceToNat, Nat.reduceMod, Kn, List.map_append, List.map_cons]
    refine aCallF.intro (fun _ => send_calls Γ ⟨S, []⟩ x _ (by simp only; omega) (by simp)) ?_
    obtain ⟨R, hR⟩ : ∃ R, R = sendF ⟨S, []⟩ x := ⟨_, rfl⟩
    have hok := @send_nil S x
    rw [← hR] at hok ⊢
    obtain ⟨X, e⟩ := R
    simp only at hok
    simp (disch := omega) only [go_sem, bne_self_eq_false, beq_self_eq_true, true_and, and_true, decide_true, decide_false, wrap_i64, ↓reduceIte, Nat.reduceAdd, Nat.reduceSub, Nat.reduceMul, Nat.reduceEqDiff, Nat.reduceLeDiff, Int.reduceAdd, Int.reduceSub, Int.reduceNeg, Int.reduceLT, Int.reduceLE, Int.reduceEq, Int.reduceToNat, Nat.reduceMod, encS, Kn, Klen, Kj0, Kj, Sj0, Sj]
    refine aIf.intro (fun he => ?_) (fun he => ?_) <;> simp (disch := omega) only [go_sem, bne_self_eq_false, beq_self_eq_true, true_and, and_true, decide_true, decide_false, wrap_i64, ↓reduceIte, Nat.reduceAdd, Nat.reduceSub, Nat.reduceMul, Nat.reduceEqDiff, Nat.reduceLeDiff, Int.reduceAdd, Int.reduceSub, Int.reduceNeg, Int.reduceLT, Int.reduceLE, Int.reduceEq, Int.reduceToNat, Nat.reduceMod]
    · obtain ⟨rfl, hI'⟩ := hok he
      simp (disch := omega) only [go_sem, bne_self_eq_false, beq_self_eq_true, true_and, and_true, decide_true, decide_false, wrap_i64, ↓reduceIte, Nat.reduceAdd, Nat.reduceSub, Nat.reduceMul, Nat.reduceEqDiff, Nat.reduceLeDiff, Int.reduceAdd, Int.reduceSub, Int.reduceNeg, Int.reduceLT, Int.reduceLE, Int.reduceEq, Int.reduceToNat, Nat.reduceMod, Kn, Klen, Kj0, Kj, Sj0, Sj]
      rw [Sn S]
      refine aAp_sl (by rw [List.length_map]; exact hcong (ho.app _)) (rows_K _) (rows_K1 x) (by simp; omega) (by simp; omega) fun j' own' ho' hg => ?_
      simp (disch := omega) only [go_sem, bne_self_eq_false, beq_self_eq_true, true_and, and_true, decide_true, decide_false, wrap_i64, ↓reduceIte, Nat.reduceAdd, Nat.reduceSub, Nat.reduceMul, Nat.reduceEqDiff, Nat.reduceLeDiff, Int.reduceAdd, Int.reduceSub, Int.reduceNeg, Int.reduceLT, Int.reduceLE, Int.reduceEq, Int.reduceToNat, Nat.reduceMod]
      refine roundL_next (AlS.mk (S ++ [x]) own' j') ?_ ?_ ?_
      · exact ⟨hI', by simpa using ho', by simp; omega⟩
      · simp (disch := omega) only [go_sem, bne_self_eq_false, beq_self_eq_true, true_and, and_true, decide_true, decide_false, wrap_i64, ↓reduceIte, Nat.reduceAdd, Nat.reduceSub, Nat.reduceMul, Nat.reduceEqDiff, Nat.reduceLeDiff, Int.reduceAdd, Int.reduceSub, Int.reduceNeg, Int.reduceLT, Int.reduceLE, Int.reduceEq, Int.reduceToNat, Nat.reduceMod, List.length_append, List.map_append, List.map_cons, List.map_nil]
      · rfl
    · refine roundL_next (AlS.mk S own (j ++ [.row (encN X).cells 25])) ?_ ?_ ?_
      · exact ⟨hI, ho.app _, by simp; omega⟩
      · simp (disch := omega) only [go_sem, bne_self_eq_false, beq_self_eq_true, true_and, and_true, decide_true, decide_false, wrap_i64, ↓reduceIte, Nat.reduceAdd, Nat.reduceSub, Nat.reduceMul, Nat.reduceEqDiff, Nat.reduceLeDiff, Int.reduceAdd, Int.reduceSub, Int.reduceNeg, Int.reduceLT, Int.reduceLE, Int.reduceEq, Int.reduceToNat, Nat.reduceMod, List.length_append, List.map_append, List.map_cons, List.map_nil]
      · rfl
  · rintro ⟨S, own, j⟩ ⟨hI, ho, hS⟩
    simp only at hI ho hS ⊢
    simp (disch := omega) only [go_sem, bne_self_eq_false, beq_self_eq_true, true_and, and_true, decide_true, decide_false, wrap_i64, ↓reduceIte, Nat.reduceAdd, Nat.reduceSub, Nat.reduceMul, Nat.reduceEqDiff, Nat.reduceLeDiff, Int.reduceAdd, Int.reduceSub, Int.reduceNeg, Int.reduceLT, Int.reduceLE, Int.reduceEq, Int.reduceToNat, Nat.reduceMod]
    refine AWP.keep [1, 5, 6] (aCode_ok Ty.mixed _ _ _ _ (by kernel_rfl) ?_)
    simp (disch := omega) only [go_sem, bne_self_eq_false, beq_self_eq_true, true_and, and_true, decide_true, decide_false, wrap_i64, ↓reduceIte, Nat.reduceAdd, Nat.reduceSub, Nat.reduceMul, Nat.reduceEqDiff, Nat.reduceLeDiff, Int.reduceAdd, Int.reduceSub, Int.reduceNeg, Int.reduceLT, Int.reduceLE, Int.reduceEq, Int.reduceToNat, Nat.reduceMod]
    refine awp_loopS (α := AlT) [1, 5, 6, 10] (fun s => [(1, .sl (o.map encB) .free), (5, .ptr (some (h.length, 0))), (6, .sl (s.S.map encK) s.own), (10, .int .i64 s.i)])
      (fun s => K s.S ++ s.j) (fun s => checkF ⟨s.S, []⟩ = 0 ∧ OwnAt (K s.S) s.j s.S.length s.own ∧ s.i + s.S.length ≤ 12) (fun s => s.S.length) ⟨0, S, own, j⟩ ?_ rfl ⟨hI, ho, by simp only; omega⟩ Ty.mixed (by kernel_rfl) ?_
    · simp (disch := omega) only [go_sem, bne_self_eq_false, beq_self_eq_true, true_and, and_true, decide_true, decide_false, wrap_i64, ↓reduceIte, Nat.reduceAdd, Nat.reduceSub, Nat.reduceMul, Nat.reduceEqDiff, Nat.reduceLeDiff, Int.reduceAdd, Int.reduceSub, Int.reduceNeg, Int.reduceLT, Int.reduceLE, Int.reduceEq, Int.reduceToNat, Nat.reduceMod]
    rintro ⟨i, S, own, j⟩ ⟨hI, ho, hi⟩
    simp only at hI ho hi ⊢
    simp (disch := omega) only [go_sem, bne_self_eq_false, beq_self_eq_true, true_and, and_true, decide_true, decide_false, wrap_i64, ↓reduceIte, Nat.reduceAdd, Nat.reduceSub, Nat.reduceMul, Nat.reduceEqDiff, Nat.reduceLeDiff, Int.reduceAdd, Int.reduceSub, Int.reduceNeg, Int.reduceLT, Int.reduceLE, Int.reduceEq, Int.reduceToNat, Nat.reduceMod, List.length_map]
    refine aIf.intro (fun h1 => ?_) (fun h1 => ?_) <;> simp (disch := omega) only [go_sem, bne_self_eq_false, beq_self_eq_true, true_and, and_true, decide_true, decide_false, wrap_i64, ↓reduceIte, Nat.reduceAdd, Nat.reduceSub, Nat.reduceMul, Nat.reduceEqDiff, Nat.reduceLeDiff, Int.reduceAdd, Int.reduceSub, Int.reduceNeg, Int.reduceLT, Int.reduceLE, Int.reduceEq, Int.reduceToNat, Nat.reduceMod]
    · refine aIf.intro (fun h2 => ?_) (fun h2 => ?_) <;> simp (disch := omega) only [go_sem, bne_self_eq_false, beq_self_eq_true, true_and, and_true, decide_true, decide_false, wrap_i64, ↓reduceIte, Nat.reduceAdd, Nat.reduceSub, Nat.reduceMul, Nat.reduceEqDiff, Nat.reduceLeDiff, Int.reduceAdd, Int.reduceSub, Int.reduceNeg, Int.reduceLT, Int.reduceLE, Int.reduceEq, Int.reduceToNat, Nat.reduceMod]
      · have hb : o[i]? = some o[i] := List.getElem?_eq_getElem (by omega)
        obtain ⟨k, hk, hke⟩ : ∃ k : Nat, k < S.length ∧ ((o[i].toNat : Int).tmod S.length) = k := ⟨o[i].toNat % S.length, Nat.mod_lt _ (by omega), by rw [← Int.ofNat_tmod]⟩
        simp (disch := omega) only [go_sem, bne_self_eq_false, beq_self_eq_true, true_and, and_true, decide_true, decide_false, wrap_i64, ↓reduceIte, Nat.reduceAdd, Nat.reduceSub, Nat.reduceMul, Nat.reduceEqDiff, Nat.reduceLeDiff, Int.reduceAdd, Int.reduceSub, Int.reduceNeg, Int.reduceLT, Int.reduceLE, Int.reduceEq, Int.reduceToNat, Nat.reduceMod, List.getElem?_map, hb, Option.map_some, encB, Int.toNat_natCast]
        refine ⟨by omega, ?_⟩
        have hw : IntKind.i64.wrap (o[i].toNat : Int) = o[i].toNat := by have := o[i].toNat_lt; exact IntWalk.i64_in _ ⟨by omega, by omega⟩
        rw [hw, hke]
        simp (disch := omega) only [go_sem, bne_self_eq_false, beq_self_eq_true, true_and, and_true, decide_true, decide_false, wrap_i64, ↓reduceIte, Nat.reduceAdd, Nat.reduceSub, Nat.reduceMul, Nat.reduceEqDiff, Nat.reduceLeDiff, Int.reduceAdd, Int.reduceSub, Int.reduceNeg, Int.reduceLT, Int.reduceLE, Int.reduceEq, Int.reduceToNat, Nat.reduceMod, Kn, Klen, Kj0, Kj, Sj0, Sj]
        refine ACalls.det ((deliver_calls Γ ⟨S, []⟩ ((k : Nat) : Int) _ (by simp only; omega) (by simp)).args rfl) ?_
        rw [deliver0 hI hk]
        have hp := (pk0 hI hk).1
        have hg := getD_mid S k hk zK
        simp (disch := omega) only [go_sem, bne_self_eq_false, beq_self_eq_true, true_and, and_true, decide_true, decide_false, wrap_i64, ↓reduceIte, Nat.reduceAdd, Nat.reduceSub, Nat.reduceMul, Nat.reduceEqDiff, Nat.reduceLeDiff, Int.reduceAdd, Int.reduceSub, Int.reduceNeg, Int.reduceLT, Int.reduceLE, Int.reduceEq, Int.reduceToNat, Nat.reduceMod, encD, Kn, Klen, Kj0, Kj, Sj0, Sj, List.not_mem_nil, withoutF, List.getElem?_map, hg, Option.map_some, Int.toNat_natCast]
        refine aCallF.intro (fun _ => samepacket_calls Γ _ _ _) ?_
        rw [hp]
        simp (disch := omega) only [go_sem, bne_self_eq_false, beq_self_eq_true, true_and, and_true, decide_true, decide_false, wrap_i64, ↓reduceIte, Nat.reduceAdd, Nat.reduceSub, Nat.reduceMul, Nat.reduceEqDiff, Nat.reduceLeDiff, Int.reduceAdd, Int.reduceSub, Int.reduceNeg, Int.reduceLT, Int.reduceLE, Int.reduceEq, Int.reduceToNat, Nat.reduceMod, encD, Kn, Klen, Kj0, Kj, Sj0, Sj, List.not_mem_nil, withoutF]
        rw [Sn S]
        refine ⟨rows_K _, by omega, ?_⟩
        simp (disch := omega) only [go_sem, bne_self_eq_false, beq_self_eq_true, true_and, and_true, decide_true, decide_false, wrap_i64, ↓reduceIte, Nat.reduceAdd, Nat.reduceSub, Nat.reduceMul, Nat.reduceEqDiff, Nat.reduceLeDiff, Int.reduceAdd, Int.reduceSub, Int.reduceNeg, Int.reduceLT, Int.reduceLE, Int.reduceEq, Int.reduceToNat, Nat.reduceMod, maps_take, maps_drop]
        refine aAp_sl (rows := []) (own := .full) trivial (fun r hr => by simp at hr) (rows_K _) (by simp; omega) (by simp; omega) fun j1 own1 ho1 _ => ?_
        simp (disch := omega) only [go_sem, bne_self_eq_false, beq_self_eq_true, true_and, and_true, decide_true, decide_false, wrap_i64, ↓reduceIte, Nat.reduceAdd, Nat.reduceSub, Nat.reduceMul, Nat.reduceEqDiff, Nat.reduceLeDiff, Int.reduceAdd, Int.reduceSub, Int.reduceNeg, Int.reduceLT, Int.reduceLE, Int.reduceEq, Int.reduceToNat, Nat.reduceMod, List.nil_append]
        refine ⟨rows_K _, by omega, by omega, ?_⟩
        simp (disch := omega) only [go_sem, bne_self_eq_false, beq_self_eq_true, true_and, and_true, decide_true, decide_false, wrap_i64, ↓reduceIte, Nat.reduceAdd, Nat.reduceSub, Nat.reduceMul, Nat.reduceEqDiff, Nat.reduceLeDiff, Int.reduceAdd, Int.reduceSub, Int.reduceNeg, Int.reduceLT, Int.reduceLE, Int.reduceEq, Int.reduceToNat, Nat.reduceMod, maps_take, maps_drop]
        refine aAp_sl (by simpa using ho1) (rows_K _) (rows_K _) (by simp; omega) (by simp; omega) fun j2 own2 ho2 _ => ?_
        simp (disch := omega) only [go_sem, bne_self_eq_false, beq_self_eq_true, true_and, and_true, decide_true, decide_false, wrap_i64, ↓reduceIte, Nat.reduceAdd, Nat.reduceSub, Nat.reduceMul, Nat.reduceEqDiff, Nat.reduceLeDiff, Int.reduceAdd, Int.reduceSub, Int.reduceNeg, Int.reduceLT, Int.reduceLE, Int.reduceEq, Int.reduceToNat, Nat.reduceMod, maps_app]
        refine roundS_next (AlT.mk (i + 1) (S.take k ++ S.drop (k + 1)) own2 j2) ?_ ⟨?_, ?_, ?_⟩ ?_ rfl
        · simp; omega
        · have := check_without (k := k) hI
          simpa [withoutF] using this
        · simpa using ho2
        · simp; omega
        · simp (disch := omega) only [go_sem, bne_self_eq_false, beq_self_eq_true, true_and, and_true, decide_true, decide_false, wrap_i64, ↓reduceIte, Nat.reduceAdd, Nat.reduceSub, Nat.reduceMul, Nat.reduceEqDiff, Nat.reduceLeDiff, Int.reduceAdd, Int.reduceSub, Int.reduceNeg, Int.reduceLT, Int.reduceLE, Int.reduceEq, Int.reduceToNat, Nat.reduceMod, maps_app, show ((k : Int) + 1).toNat = k + 1 from by omega]
      · have hk : 0 < S.length := by omega
        simp (disch := omega) only [go_sem, bne_self_eq_false, beq_self_eq_true, true_and, and_true, decide_true, decide_false, wrap_i64, ↓reduceIte, Nat.reduceAdd, Nat.reduceSub, Nat.reduceMul, Nat.reduceEqDiff, Nat.reduceLeDiff, Int.reduceAdd, Int.reduceSub, Int.reduceNeg, Int.reduceLT, Int.reduceLE, Int.reduceEq, Int.reduceToNat, Nat.reduceMod, Kn, Klen, Kj0, Kj, Sj0, Sj]
        refine ACalls.det ((deliver_calls Γ ⟨S, []⟩ ((0 : Nat) : Int) _ (by simp only; omega) (by simp)).args rfl) ?_
        rw [deliver0 hI hk]
        have hp := (pk0 hI hk).1
        have hg := getD_mid S 0 hk zK
        simp (disch := omega) only [go_sem, bne_self_eq_false, beq_self_eq_true, true_and, and_true, decide_true, decide_false, wrap_i64, ↓reduceIte, Nat.reduceAdd, Nat.reduceSub, Nat.reduceMul, Nat.reduceEqDiff, Nat.reduceLeDiff, Int.reduceAdd, Int.reduceSub, Int.reduceNeg, Int.reduceLT, Int.reduceLE, Int.reduceEq, Int.reduceToNat, Nat.reduceMod, encD, Kn, Klen, Kj0, Kj, Sj0, Sj, List.not_mem_nil, withoutF, List.getElem?_map, hg, Option.map_some, Int.toNat_natCast]
        refine aCallF.intro (fun _ => samepacket_calls Γ _ _ _) ?_
        rw [show pkAt ⟨S, []⟩ 0 = S.getD 0 zK from hp]
        simp (disch := omega) only [go_sem, bne_self_eq_false, beq_self_eq_true, true_and, and_true, decide_true, decide_false, wrap_i64, ↓reduceIte, Nat.reduceAdd, Nat.reduceSub, Nat.reduceMul, Nat.reduceEqDiff, Nat.reduceLeDiff, Int.reduceAdd, Int.reduceSub, Int.reduceNeg, Int.reduceLT, Int.reduceLE, Int.reduceEq, Int.reduceToNat, Nat.reduceMod, encD, Kn, Klen, Kj0, Kj, Sj0, Sj, List.not_mem_nil, withoutF]
        rw [Sn S]
        refine ⟨rows_K _, ?_⟩
        refine aAp_sl (rows := []) (own := .full) trivial (fun r hr => by simp at hr) (rows_K []) (by simp) (by simp) fun j1 own1 ho1 _ => ?_
        simp (disch := omega) only [go_sem, bne_self_eq_false, beq_self_eq_true, true_and, and_true, decide_true, decide_false, wrap_i64, ↓reduceIte, Nat.reduceAdd, Nat.reduceSub, Nat.reduceMul, Nat.reduceEqDiff, Nat.reduceLeDiff, Int.reduceAdd, Int.reduceSub, Int.reduceNeg, Int.reduceLT, Int.reduceLE, Int.reduceEq, Int.reduceToNat, Nat.reduceMod, List.nil_append]
        refine ⟨rows_K _, by omega, ?_⟩
        simp only [maps_drop]
        refine aAp_sl (rows := []) (K := K (S.drop 1)) (by simpa using ho1) (fun r hr => by simp at hr) (rows_K _) (by simp; omega) (by simp; omega) fun j2 own2 ho2 _ => ?_
        simp (disch := omega) only [go_sem, bne_self_eq_false, beq_self_eq_true, true_and, and_true, decide_true, decide_false, wrap_i64, ↓reduceIte, Nat.reduceAdd, Nat.reduceSub, Nat.reduceMul, Nat.reduceEqDiff, Nat.reduceLeDiff, Int.reduceAdd, Int.reduceSub, Int.reduceNeg, Int.reduceLT, Int.reduceLE, Int.reduceEq, Int.reduceToNat, Nat.reduceMod, List.nil_append]
        refine roundS_next (AlT.mk (i + 1) (S.drop 1) own2 j2) ?_ ⟨?_, ?_, ?_⟩ ?_ rfl
        · simp; omega
        · have := check_without (k := 0) hI
          simpa [withoutF] using this
        · simpa using ho2
        · simp; omega
        · simp (disch := omega) only [go_sem, bne_self_eq_false, beq_self_eq_true, true_and, and_true, decide_true, decide_false, wrap_i64, ↓reduceIte, Nat.reduceAdd, Nat.reduceSub, Nat.reduceMul, Nat.reduceEqDiff, Nat.reduceLeDiff, Int.reduceAdd, Int.reduceSub, Int.reduceNeg, Int.reduceLT, Int.reduceLE, Int.reduceEq, Int.reduceToNat, Nat.reduceMod, maps_app]
    · refine AWP.keep [5] (aCode_ok Ty.mixed _ _ _ _ (by kernel_rfl) ?_)
      simp (disch := omega) only [go_sem, bne_self_eq_false, beq_self_eq_true, true_and, and_true, decide_true, decide_false, wrap_i64, ↓reduceIte, Nat.reduceAdd, Nat.reduceSub, Nat.reduceMul, Nat.reduceEqDiff, Nat.reduceLeDiff, Int.reduceAdd, Int.reduceSub, Int.reduceNeg, Int.reduceLT, Int.reduceLE, Int.reduceEq, Int.reduceToNat, Nat.reduceMod, Kn, encN]
      refine ⟨⟨_, hap S j⟩, ?_⟩
      rw [decide_eq_true (by omega)]
end Go.Proofs.Ytidmpembkkkhkaa
