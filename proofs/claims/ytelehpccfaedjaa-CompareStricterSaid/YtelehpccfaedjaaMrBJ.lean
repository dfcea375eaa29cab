/- Texts joined: CmpL. No conditions. -/
import Derived.Test.YtelehpccfaedjaaMrBG
/- The laws CompareEither and CompareSound: the code. No conditions. -/
set_option linter.unusedSimpArgs false
set_option linter.unusedVariables false
namespace Go.Proofs.Ytelehpccfaedjaa
open Go Go.Proofs Go.Abs

def rgt1 (g : Gt) : Bool := few25F g && decide (errF g = 0) && decide ((pplF g).length ≤ 8)
theorem rgt_rt {g : Gt} (h : rgt1 g = true) : Rt g := by
  simp only [rgt1, Bool.and_eq_true, decide_eq_true_eq] at h
  exact rt_of h.1.2 h.2
set_option maxRecDepth 100000 in
theorem right25_calls (Γ : Nat → Option (List AV)) (gs : List Gt) (h : AH) (hs : ∀ g ∈ gs, Sh g) (hl : gs.length ≤ 10) :
    ACalls Try.prog Γ 28 [.sl (gs.map encG) .free] h fun v h' => h' = h ∧ v = .bool (gs.all rgt1) := by
  refine ACalls.drop ?_
  refine acalls_code (rs := [.tmp 2]) Try.func28 rfl rfl rfl rfl Ty.mixed (by kernel_rfl) ?_
  simp (disch := omega) only [go_sem, seval]
  refine awp_loopL (β := AH) gs [5, 6, 7] (fun don _ => [(5, .sl (gs.map encG) .free), (6, .int .i64 gs.length), (7, .int .i64 don.length)]) (fun X => h ++ X) (fun don _ _ => ∀ g ∈ don, rgt1 g = true) [] ?_ (by simp) (by simp) Ty.mixed (by kernel_rfl) ?_ ?_
  · simp (disch := omega) only [go_sem, seval, List.length_map]
  · rintro don g r X hd hdn
    have hlen : gs.length = don.length + 1 + r.length := by rw [hd]; simp; omega
    have e1 : (gs.map encG)[don.length]? = some (encG g) := by rw [hd]; simp
    have hg := hs g (by rw [hd]; simp)
    have c1 := fun h => few25_calls Γ g h hg
    have c2 := fun h => err_calls Γ g h hg
    have c3 := fun (hf : allLeaves g ≤ 1000) h => ppl_calls Γ g h hg hf
    have hq : rgt1 g = (few25F g && decide (errF g = 0) && decide ((pplF g).length ≤ 8)) := rfl
    have hlv : errF g = 0 → allLeaves g ≤ 1000 := fun e => by have := (errF_facts e).2.1; omega
    have bad : rgt1 g = false → gs.all rgt1 = false := fun e => List.all_eq_false.2 ⟨g, by rw [hd]; simp, by rw [e]; simp⟩
    have nxt : rgt1 g = true → ∀ x ∈ don ++ [g], rgt1 x = true := fun e x hx => by
      rcases List.mem_append.1 hx with hx | hx
      · exact hdn x hx
      · rw [List.mem_singleton] at hx; subst hx; exact e
    generalize rgt1 g = q at hq bad nxt
    generalize few25F g = fw at *
    generalize errF g = er at *
    generalize pplF g = P at *
    cases g with | mk p n gl =>
    simp only [encG_mk] at c1 c2 c3 e1
    simp (disch := omega) only [go_sem, seval, List.length_map]
    refine aIf.pos (by omega) ?_
    simp (disch := omega) only [go_sem, seval, e1, List.append_assoc]
    refine ACalls.det (c1 _) ?_
    simp (disch := omega) only [go_sem, seval]
    cases fw with
    | false =>
      simp (disch := omega) only [go_sem, seval]
      rw [bad (by rw [hq]; rfl)]
    | true =>
    simp (disch := omega) only [go_sem, seval]
    refine ACalls.det (c2 _) ?_
    simp (disch := omega) only [go_sem, seval]
    refine aIf.intro (fun h2 => ?_) (fun h2 => ?_) <;> simp (disch := omega) only [go_sem, seval]
    rotate_left
    · rw [bad (by rw [hq, decide_eq_false h2]; rfl)]
    refine ACalls.det (c3 (hlv h2) _) ?_
    simp (disch := omega) only [go_sem, seval, encI_len]
    refine aIf.intro (fun h3 => ?_) (fun h3 => ?_) <;> simp (disch := omega) only [go_sem, seval]
    · have : ¬ P.length ≤ 8 := by omega
      rw [bad (by rw [hq, decide_eq_false this, Bool.and_false])]
    · have h4 : P.length ≤ 8 := by omega
      refine roundL_next (X ++ [.row [.int .i64 p, .int .i64 n, .sl (gl.map encG) .free] 54]) (nxt (by rw [hq, decide_eq_true h2, decide_eq_true h4]; rfl)) ?_ ?_
      · simp (disch := omega) only [go_sem, seval, List.length_append]
      · simp
  · rintro X hdn
    simp (disch := omega) only [go_sem, seval, List.length_map]
    refine AWP.keep [] (aCode_ok Ty.mixed _ _ _ _ (by kernel_rfl) ?_)
    simp (disch := omega) only [go_sem, seval]
    rw [List.all_eq_true.2 hdn]
theorem two_all (a b : Gt) : [a, b].all rgt1 = (rgt1 a && rgt1 b) := by simp
set_option maxHeartbeats 1600000 in
set_option maxRecDepth 100000 in
theorem cmpEither_calls (Γ : Nat → Option (List AV)) (a b : Gt) (l : List (List Int)) (ins : List Int) (h : AH) (ha : Sh a) (hb : Sh b) (hl : l.length ≤ 9223372036854775807) (hi : ins.length ≤ 9223372036854775807) :
    ACalls Try.prog Γ 9 [encG a, encG b, .sl (encII l) .free, .sl (encI ins) .free] h fun v h' => h' = h ∧ v = .bool true := by
  have c1 := fun h => right25_calls Γ [a, b] h (by simp [ha, hb]) (by simp)
  rw [two_all] at c1
  have c2 := fun h => fewsets25_calls Γ l h hl
  have c3 := fun h => more_calls Γ a b h ha hb
  have c4 := fun h => pless_calls Γ a b h ha hb
  have c5 := fun h => psets_calls Γ a h ha
  have c6 := fun (q1 : l.length ≤ 1000000) (q2 : ∀ s ∈ l, s.length ≤ 1000000) (q3 : ins.length ≤ 1000000) h => accepts_calls Γ a b l ins h ha hb q1 q2 q3
  have c7 := fun l2 i2 (q1 : l2.length ≤ 1000000) (q2 : ∀ s ∈ l2, s.length ≤ 1000000) (q3 : i2.length ≤ 1000000) h => accepts_calls Γ a b l2 i2 h ha hb q1 q2 q3
  have c8 := fun s (q : s.length ≤ 1000000) h => Holds_calls Γ a s h ha (by omega)
  have c9 := fun s (q : s.length ≤ 1000000) h => Holds_calls Γ b s h hb (by omega)
  have hf : fewS25 l = true → l.length ≤ 300 ∧ ∀ s ∈ l, s.length ≤ 70 := fun e => by
    simp only [fewS25, Bool.and_eq_true, Bool.or_eq_true, List.all_eq_true, decide_eq_true_eq] at e
    exact ⟨by omega, e.1⟩
  obtain ⟨g1, hg1⟩ : ∃ g, g = a := ⟨_, rfl⟩
  obtain ⟨g2, hg2⟩ : ∃ g, g = b := ⟨_, rfl⟩
  cases a with | mk p n gl =>
  cases b with | mk p2 n2 gl2 =>
  rw [← hg1] at c1 c3 c4 c5 c6 c7 c8 ⊢
  rw [← hg2] at c1 c3 c4 c6 c7 c9 ⊢
  have E1 : encG g1 = .agg [.int .i64 p, .int .i64 n, .sl (gl.map encG) .free] := by rw [hg1, encG_mk]
  have E2 : encG g2 = .agg [.int .i64 p2, .int .i64 n2, .sl (gl2.map encG) .free] := by rw [hg2, encG_mk]
  simp only [List.map_cons, List.map_nil, E1, E2] at c1 c3 c4 c5 c6 c7 c8 c9 ⊢
  refine ACalls.drop ?_
  refine acalls_code (rs := [.tmp 8]) Try.func9 rfl rfl rfl rfl Ty.mixed (by kernel_rfl) ?_
  simp (disch := omega) only [go_sem, seval]
  refine ACalls.det (sane25_calls Γ _) ?_
  simp (disch := omega) only [go_sem, seval]
  refine ACalls.det (ACalls.ofLoose (c1 _) (by simp [looseL, loose, loose_Gs])) ?_
  simp (disch := omega) only [go_sem, seval]
  cases hr : rgt1 g1 && rgt1 g2 with
  | false => simp (disch := omega) only [go_sem, seval]
  | true =>
  rw [Bool.and_eq_true] at hr
  have ra := rgt_rt hr.1
  have rb := rgt_rt hr.2
  simp (disch := omega) only [go_sem, seval]
  refine ACalls.det (c2 _) ?_
  simp (disch := omega) only [go_sem, seval]
  cases hfs : fewS25 l with
  | false => simp (disch := omega) only [go_sem, seval]
  | true =>
  obtain ⟨q1, q2⟩ := hf hfs
  simp (disch := omega) only [go_sem, seval, encII_len]
  refine aIf.intro (fun h2 => ?_) (fun h2 => ?_) <;> simp (disch := omega) only [go_sem, seval, encI_len]
  refine aIf.intro (fun h3 => ?_) (fun h3 => ?_) <;> simp (disch := omega) only [go_sem, seval, encI_len]
  rw [ra.r, encS] at c5
  rcases more_cases ra rb with ⟨s, k1, k2, k3⟩ | ⟨k1, k2⟩
  · have kl : lessR g1 g2 = ([], false, 0) := by
      rcases less_cases ra rb with ⟨x, e1, _⟩ | e1
      · have := (more_less ra rb).1; rw [k1, e1] at this; cases this
      · exact e1
    have hs1 := sets_asc rb.c k2
    have hs2 : permF g2 s = true := ((mem_mins (ppl_lt rb.c) s).1 k2).2.1
    have hsl : s.length ≤ 12 := by have := ((mem_mins (ppl_lt rb.c) s).1 k2).1.length_le; have := rb.n; omega
    have c8' := c8 s (by omega)
    have c9' := c9 s (by omega)
    rw [(permF_asc ra.c hs1).1, k3, encR] at c8'
    rw [(permF_asc rb.c hs1).1, hs2, encR] at c9'
    have hac : accC g1 g2 l ins = (false, 0) := by
      have hsh := acc_shape ra rb (l := l) (ins := ins) (by omega)
      cases hv : okL g1 l && insL l (setsF g2) ins with
      | false => rw [hsh, hv]
      | true =>
        have := acc_sound ra rb (l := l) (ins := ins) (by omega) (by rw [hsh, hv]) s hs1 hs2
        rw [k3] at this; cases this
    have c6' := c6 (by omega) (fun s hs => by have := q2 s hs; omega) (by omega)
    rw [k1, encM] at c3
    rw [kl, encL] at c4
    rw [hac, encAc] at c6'
    refine ACalls.det (c3 _) ?_
    simp (disch := omega) only [go_sem, seval]
    refine ACalls.det (c4 _) ?_
    simp (disch := omega) only [go_sem, seval]
    refine ACalls.det (c5 _) ?_
    simp (disch := omega) only [go_sem, seval]
    refine ACalls.det (c9' _) ?_
    simp (disch := omega) only [go_sem, seval]
    refine ACalls.det (c8' _) ?_
    simp (disch := omega) only [go_sem, seval]
    refine ACalls.det (c6' _) ?_
    simp (disch := omega) only [go_sem, seval, encNs, encI, List.map_nil]
  · obtain ⟨lq, k3, k4⟩ : ∃ lq, lessR g1 g2 = (lq, true, 0) ∧ lessL (setsF g1) (setsF g2) = some lq := by
      rcases less_cases ra rb with ⟨x, e1, e2⟩ | e1
      · exact ⟨x, e1, e2⟩
      · have := (more_less ra rb).1; rw [k1, e1] at this; cases this
    have hsl := sets_le ra
    have hbl := sets_le rb
    have hlq := lessL_len k4
    have c7' := c7 (setsF g1) (lq.map fun (k : Nat) => (k : Int)) (by omega) (fun s hs => by
      have := ((mem_mins (ppl_lt ra.c) s).1 hs).1.length_le; have := ra.n; omega) (by rw [List.length_map]; omega)
    rw [acc_own ra rb k4 hsl, encAc] at c7'
    rw [k1, encM] at c3
    rw [k3, encL, encNs] at c4
    refine ACalls.det (c3 _) ?_
    simp (disch := omega) only [go_sem, seval]
    refine ACalls.det (c4 _) ?_
    simp (disch := omega) only [go_sem, seval]
    refine ACalls.det (c5 _) ?_
    simp (disch := omega) only [go_sem, seval]
    refine ACalls.det (c7' _) ?_
    simp (disch := omega) only [go_sem, seval, encI, List.map_nil]
end Go.Proofs.Ytelehpccfaedjaa
