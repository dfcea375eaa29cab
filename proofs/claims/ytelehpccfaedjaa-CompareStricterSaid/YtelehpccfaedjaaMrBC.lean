/- Texts joined: CmpD, CmpE. No conditions. -/
import Derived.Test.YtelehpccfaedjaaMrBB
/- The reference of compare, continued: Few, FewSets, Less, Accepts. No conditions. -/
set_option linter.unusedSimpArgs false
set_option linter.unusedVariables false
namespace Go.Proofs.Ytelehpccfaedjaa
open Go Go.Proofs Go.Abs

theorem few22_leaves {g : Gt} (h : few22F g = true) : allLeaves g ≤ 300 := by
  simp [few22F] at h
  have := leaves_all g 300 (by omega)
  omega
def few25F (g : Gt) : Bool := few22F g && (decide (checkF g ≠ 0) || decide ((pplF g).length ≤ 8) || decide (12 < (pplF g).length))
set_option maxRecDepth 100000 in
theorem few25_calls (Γ : Nat → Option (List AV)) (g : Gt) (h : AH) (hs : Sh g) : ACalls Try.prog Γ 60 [encG g] h fun v h' => h' = h ∧ v = .bool (few25F g) := by
  have c1 := fun h => few22_calls Γ g h hs
  have c2 := fun h => refcheck_calls Γ g h hs
  have c3 := fun (hf : allLeaves g ≤ 1000) h => ppl_calls Γ g h hs hf
  have hb := fun (hf : few22F g = true) => few22_leaves hf
  rw [few25F]
  generalize few22F g = fw at *
  generalize checkF g = ce at *
  generalize pplF g = P at *
  generalize allLeaves g = al at *
  cases g with | mk p n gl =>
  simp only [encG_mk] at c1 c2 c3 ⊢
  refine ACalls.drop ?_
  refine acalls_code (rs := [.tmp 2]) Try.func60 rfl rfl rfl rfl Ty.mixed (by kernel_rfl) ?_
  simp (disch := omega) only [go_sem, seval]
  refine ACalls.det (c1 _) ?_
  simp (disch := omega) only [go_sem, seval]
  refine aBr.intro (fun h1 => ?_) (fun h1 => ?_) <;> simp (disch := omega) only [go_sem, seval]
  rotate_left
  · simp at h1; simp [h1]
  have hb := hb h1
  subst h1
  refine ACalls.det (c2 _) ?_
  simp (disch := omega) only [go_sem, seval]
  refine aIf.intro (fun h2 => ?_) (fun h2 => ?_) <;> simp (disch := omega) only [go_sem, seval]
  rotate_left
  · simp [h2]
  refine ACalls.det (c3 (by omega) _) ?_
  simp (disch := omega) only [go_sem, seval, encI_len]
  refine aIf.intro (fun h3 => ?_) (fun h3 => ?_) <;> simp (disch := omega) only [go_sem, seval]
  · have : P.length ≤ 8 := by omega
    simp [this]
  refine ACalls.det (c3 (by omega) _) ?_
  simp (disch := omega) only [go_sem, seval, encI_len]
  have : ¬ P.length ≤ 8 := by omega
  simp [this, h2]
  try omega
def fewS25 (l : List (List Int)) : Bool := l.all (fun s => decide (s.length ≤ 70)) && (decide (l.length ≤ 100) || (decide (256 < l.length) && decide (l.length ≤ 300)))
set_option maxRecDepth 100000 in
theorem fewsets25_calls (Γ : Nat → Option (List AV)) (l : List (List Int)) (h : AH) (hl : l.length ≤ 9223372036854775807) :
    ACalls Try.prog Γ 29 [.sl (encII l) .free] h fun v h' => h' = h ∧ v = .bool (fewS25 l) := by
  refine ACalls.drop ?_
  refine acalls_code (rs := [.tmp 2]) Try.func29 rfl rfl rfl rfl Ty.mixed (by kernel_rfl) ?_
  simp (disch := omega) only [go_sem, seval]
  refine awp_loopL (β := Unit) l [0, 3] (fun don _ => [(0, .sl (encII l) .free), (3, .int .i64 don.length)]) (fun _ => h) (fun don rest _ => l.all (fun s => decide (s.length ≤ 70)) = rest.all fun s => decide (s.length ≤ 70)) () ?_ rfl rfl Ty.mixed (by kernel_rfl) ?_ ?_
  · simp (disch := omega) only [go_sem, seval]
  · rintro don x r _ rfl hx
    have hl3 := len_mid hl
    have e1 := encII_get don r x
    simp (disch := omega) only [go_sem, seval, encII_len, List.length_append, List.length_cons]
    refine aIf.pos (by omega) ?_
    simp (disch := omega) only [go_sem, seval, encII_len, List.length_append, List.length_cons, e1, encI_len]
    rw [List.all_cons] at hx
    refine aIf.intro (fun h1 => ?_) (fun h1 => ?_) <;> simp (disch := omega) only [go_sem, seval]
    · rw [fewS25, hx, decide_eq_false (by omega)]; rfl
    · refine roundL_next () ?_ ?_ rfl
      · rw [hx, decide_eq_true (by omega)]; rfl
      · simp (disch := omega) only [go_sem, seval, List.length_append]
  · intro _ hx
    simp (disch := omega) only [go_sem, seval, encII_len]
    refine AWP.keep [0] (aCode_ok Ty.mixed _ _ _ _ (by kernel_rfl) ?_)
    simp (disch := omega) only [go_sem, seval, encII_len]
    rw [fewS25, hx, List.all_nil, Bool.true_and]
    refine aIf.intro (fun h2 => ?_) (fun h2 => ?_) <;> simp (disch := omega) only [go_sem, seval, encII_len]
    · have : l.length ≤ 100 := by omega
      simp [this]
    have h2' : ¬ l.length ≤ 100 := by omega
    refine aIf.intro (fun h3 => ?_) (fun h3 => ?_) <;> simp (disch := omega) only [go_sem, seval, encII_len]
    · have : 256 < l.length := by omega
      simp [this, h2']
      try omega
    · have : ¬ 256 < l.length := by omega
      simp [this, h2']

theorem encNs_snoc (l : List Nat) (k : Nat) : encNs (l ++ [k]) = encNs l ++ [.int .i64 (k : Int)] := by simp [encNs, encI]
end Go.Proofs.Ytelehpccfaedjaa

/- The reference of compare: Accepts. No conditions. -/
set_option linter.unusedSimpArgs false
set_option linter.unusedVariables false
namespace Go.Proofs.Ytelehpccfaedjaa
open Go Go.Proofs Go.Abs

def encAc (r : Bool × Int) : AV := .tuple [.bool r.1, .int .i64 r.2]
theorem ins_len {L : List (List Int)} : ∀ {S : List (List Int)} {ins : List Int}, insL L S ins = true → ins.length = S.length
  | [], [], _ => rfl
  | [], _ :: _, h => by simp [insL] at h
  | _ :: _, [], h => by simp [insL] at h
  | _ :: S, _ :: ins, h => by
    rw [insL, Bool.and_eq_true] at h
    simp [ins_len h.2]
/-- What is checked of one of the second formula's sets. -/
def in1 (L : List (List Int)) (m : List Int) (k : Int) : Bool := decide (0 ≤ k ∧ k < L.length) && prtF (L.getD k.toNat []) m
theorem insL_app (L : List (List Int)) : ∀ (A : List (List Int)) (B : List (List Int)) (i j : List Int), A.length = i.length → insL L (A ++ B) (i ++ j) = (insL L A i && insL L B j)
  | [], B, [], j, _ => by simp [insL]
  | [], _, _ :: _, _, h => by simp at h
  | _ :: _, _, [], _, h => by simp at h
  | a :: A, B, k :: i, j, h => by
    rw [List.cons_append, List.cons_append, insL, insL, insL_app L A B i j (by simpa using h)]
    simp [Bool.and_assoc]
theorem insL_at {L S : List (List Int)} {ins : List Int} (h : insL L S ins = true) (i : Nat) (m : List Int) (k : Int) (hm : S[i]? = some m) (hk : ins[i]? = some k) : in1 L m k = true := by
  induction S generalizing ins i with
  | nil => simp at hm
  | cons a S ih =>
    cases ins with
    | nil => simp at hk
    | cons b ins =>
      rw [insL, Bool.and_eq_true] at h
      cases i with
      | zero => simp at hm hk; subst hm; subst hk; exact h.1
      | succ i => exact ih h.2 i (by simpa using hm) (by simpa using hk)
end Go.Proofs.Ytelehpccfaedjaa
