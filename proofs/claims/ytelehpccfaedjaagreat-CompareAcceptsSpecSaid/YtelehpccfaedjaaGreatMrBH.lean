/- Texts joined: CmpK. No conditions. -/
import Derived.Test.YtelehpccfaedjaaGreatMrBG
/- The laws CompareSpec and CompareAcceptsSpec: the code. No conditions. -/
set_option linter.unusedSimpArgs false
set_option linter.unusedVariables false
namespace Go.Proofs.YtelehpccfaedjaaGreat
open Go Go.Proofs Go.Abs

theorem more_len (a b : Gt) : (moreR a b).1.length ≤ 12 := by
  rw [moreR]
  split
  · split
    · cases hf : (smallR b false).1.find? fun s => !permF a s with
      | some s => exact small_in (List.mem_of_find?_eq_some hf)
      | none => simp
    · simp
  · simp
theorem less_len (a b : Gt) : (lessR a b).1.length ≤ 256 := by
  rw [lessR]
  split
  · split
    · cases hf : lessL (smallR a false).1 (smallR b false).1 with
      | some l =>
        have := lessL_len hf
        have h2 := small_le b false
        show l.length ≤ 256
        omega
      | none => simp
    · simp
  · simp
set_option maxRecDepth 100000 in
theorem cmpSpec_calls (Γ : Nat → Option (List AV)) (a b : Gt) (h : AH) (ha : Sh a) (hb : Sh b) :
    ACalls Tryz.prog Γ 3 [encG a, encG b] h fun v h' => h' = h ∧ v = .bool true := by
  have c1 := fun h => few25_calls Γ a h ha
  have c2 := fun h => few25_calls Γ b h hb
  have c3 := fun h => more_calls Γ a b h ha hb
  have c4 := fun h => rmore_calls Γ a b h ha hb
  have c5 := fun h => pless_calls Γ a b h ha hb
  have c6 := fun h => rless_calls Γ a b h ha hb
  have k1 := more_len a b
  have k2 := less_len a b
  have c7 := fun h => same25_calls Γ (moreR a b).1 (moreR a b).1 h (by omega)
  have c8 := fun h => same25_calls Γ ((lessR a b).1.map fun (k : Nat) => (k : Int)) ((lessR a b).1.map fun (k : Nat) => (k : Int)) h (by rw [List.length_map]; omega)
  rw [encM] at c3 c4
  rw [encL, encNs] at c5 c6
  generalize few25F a = fa at *
  generalize few25F b = fb at *
  generalize moreR a b = mo at *
  generalize lessR a b = le at *
  obtain ⟨m1, m2, m3⟩ := mo
  obtain ⟨l1, l2, l3⟩ := le
  simp only at c3 c4 c5 c6 c7 c8
  generalize (l1.map fun (k : Nat) => (k : Int)) = l1 at *
  cases a with | mk p n gl =>
  cases b with | mk p2 n2 gl2 =>
  simp only [encG_mk] at c1 c2 c3 c4 c5 c6 ⊢
  refine ACalls.drop ?_
  refine acalls_code (rs := [.tmp 4]) Tryz.func3 rfl rfl rfl rfl Ty.mixed (by kernel_rfl) ?_
  simp (disch := omega) only [go_sem, seval]
  refine ACalls.det (sane25_calls Γ _) ?_
  simp (disch := omega) only [go_sem, seval]
  refine ACalls.det (c1 _) ?_
  simp (disch := omega) only [go_sem, seval]
  cases fa with
  | false => simp (disch := omega) only [go_sem, seval]
  | true =>
  simp (disch := omega) only [go_sem, seval]
  refine ACalls.det (c2 _) ?_
  simp (disch := omega) only [go_sem, seval]
  cases fb with
  | false => simp (disch := omega) only [go_sem, seval]
  | true =>
  simp (disch := omega) only [go_sem, seval]
  refine ACalls.det (c3 _) ?_
  simp (disch := omega) only [go_sem, seval]
  refine ACalls.det (c4 _) ?_
  simp (disch := omega) only [go_sem, seval]
  refine ACalls.det (c5 _) ?_
  simp (disch := omega) only [go_sem, seval]
  refine ACalls.det (c6 _) ?_
  simp (disch := omega) only [go_sem, seval]
  refine ACalls.det (c7 _) ?_
  simp (disch := omega) only [go_sem, seval]
  refine ACalls.det (c8 _) ?_
  simp (disch := omega) only [go_sem, seval]
set_option maxRecDepth 100000 in
theorem cmpAcc_calls (Γ : Nat → Option (List AV)) (a b : Gt) (l : List (List Int)) (ins : List Int) (h : AH) (ha : Sh a) (hb : Sh b) (hl : l.length ≤ 9223372036854775807) (hi : ins.length ≤ 9223372036854775807) :
    ACalls Tryz.prog Γ 4 [encG a, encG b, .sl (encII l) .free, .sl (encI ins) .free] h fun v h' => h' = h ∧ v = .bool true := by
  have c1 := fun h => few25_calls Γ a h ha
  have c2 := fun h => few25_calls Γ b h hb
  have c3 := fun h => fewsets25_calls Γ l h hl
  have c4 := fun (q1 : l.length ≤ 1000000) (q2 : ∀ s ∈ l, s.length ≤ 1000000) (q3 : ins.length ≤ 1000000) h => accepts_calls Γ a b l ins h ha hb q1 q2 q3
  have c5 := fun (q1 : l.length ≤ 1000000) (q2 : ∀ s ∈ l, s.length ≤ 1000000) (q3 : ins.length ≤ 1000000) h => racc_calls Γ a b l ins h ha hb q1 q2 q3
  have hf : fewS25 l = true → l.length ≤ 300 ∧ ∀ s ∈ l, s.length ≤ 70 := fun e => by
    simp only [fewS25, Bool.and_eq_true, Bool.or_eq_true, List.all_eq_true, decide_eq_true_eq] at e
    exact ⟨by omega, e.1⟩
  rw [encAc] at c4 c5
  generalize few25F a = fa at *
  generalize few25F b = fb at *
  generalize fewS25 l = fs at *
  generalize accC a b l ins = ac at *
  obtain ⟨a1, a2⟩ := ac
  simp only at c4 c5
  cases a with | mk p n gl =>
  cases b with | mk p2 n2 gl2 =>
  simp only [encG_mk] at c1 c2 c4 c5 ⊢
  refine ACalls.drop ?_
  refine acalls_code (rs := [.tmp 8]) Tryz.func4 rfl rfl rfl rfl Ty.mixed (by kernel_rfl) ?_
  simp (disch := omega) only [go_sem, seval]
  refine ACalls.det (sane25_calls Γ _) ?_
  simp (disch := omega) only [go_sem, seval]
  refine ACalls.det (c1 _) ?_
  simp (disch := omega) only [go_sem, seval]
  cases fa with
  | false => simp (disch := omega) only [go_sem, seval]
  | true =>
  simp (disch := omega) only [go_sem, seval]
  refine ACalls.det (c2 _) ?_
  simp (disch := omega) only [go_sem, seval]
  cases fb with
  | false => simp (disch := omega) only [go_sem, seval]
  | true =>
  simp (disch := omega) only [go_sem, seval]
  refine ACalls.det (c3 _) ?_
  simp (disch := omega) only [go_sem, seval]
  cases fs with
  | false => simp (disch := omega) only [go_sem, seval]
  | true =>
  obtain ⟨q1, q2⟩ := hf rfl
  simp (disch := omega) only [go_sem, seval, encI_len]
  refine aIf.intro (fun h3 => ?_) (fun h3 => ?_) <;> simp (disch := omega) only [go_sem, seval]
  refine ACalls.det (c4 (by omega) (fun s hs => by have := q2 s hs; omega) (by omega) _) ?_
  simp (disch := omega) only [go_sem, seval]
  refine ACalls.det (c5 (by omega) (fun s hs => by have := q2 s hs; omega) (by omega) _) ?_
  simp (disch := omega) only [go_sem, seval]
end Go.Proofs.YtelehpccfaedjaaGreat
