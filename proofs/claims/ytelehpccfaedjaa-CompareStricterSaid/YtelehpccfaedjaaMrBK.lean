/- Texts joined: CmpM. No conditions. -/
import Derived.Test.YtelehpccfaedjaaMrBJ
/- The laws CompareSound and CompareOrder: the code. No conditions. -/
set_option linter.unusedSimpArgs false
set_option linter.unusedVariables false
namespace Go.Proofs.Ytelehpccfaedjaa
open Go Go.Proofs Go.Abs

/-- No more people may, or someone may who could not. -/
theorem more_says {a b : Gt} (ra : Rt a) (rb : Rt b) : ∃ x m, moreR a b = (x, m, 0) ∧ (m = false ↔ permits a b) := by
  have h1 := (more_less ra rb).1
  have h2 := (more_less ra rb).2.1
  refine ⟨(moreR a b).1, (moreR a b).2.1, by rw [← h2], ?_⟩
  rw [← less_iff ra rb, h1]
  cases (lessR a b).2.1 <;> simp
set_option maxHeartbeats 1600000 in
set_option maxRecDepth 100000 in
theorem cmpSound_calls (Γ : Nat → Option (List AV)) (a b : Gt) (l : List (List Int)) (ins who : List Int) (h : AH) (ha : Sh a) (hb : Sh b) (hl : l.length ≤ 9223372036854775807) (hi : ins.length ≤ 9223372036854775807) (hw : who.length ≤ 9223372036854775807) :
    ACalls Try.prog Γ 10 [encG a, encG b, .sl (encII l) .free, .sl (encI ins) .free, .sl (encI who) .free] h fun v h' => h' = h ∧ v = .bool true := by
  have c1 := fun h => right25_calls Γ [a, b] h (by simp [ha, hb]) (by simp)
  rw [two_all] at c1
  have c2 := fun h => fewsets25_calls Γ l h hl
  have c3 := fun h => more_calls Γ a b h ha hb
  have c6 := fun (q1 : l.length ≤ 1000000) (q2 : ∀ s ∈ l, s.length ≤ 1000000) (q3 : ins.length ≤ 1000000) h => accepts_calls Γ a b l ins h ha hb q1 q2 q3
  have c8 := fun h => Holds_calls Γ a who h ha hw
  have c9 := fun h => Holds_calls Γ b who h hb hw
  have hf : fewS25 l = true → l.length ≤ 300 ∧ ∀ s ∈ l, s.length ≤ 70 := fun e => by
    simp only [fewS25, Bool.and_eq_true, Bool.or_eq_true, List.all_eq_true, decide_eq_true_eq] at e
    exact ⟨by omega, e.1⟩
  obtain ⟨g1, hg1⟩ : ∃ g, g = a := ⟨_, rfl⟩
  obtain ⟨g2, hg2⟩ : ∃ g, g = b := ⟨_, rfl⟩
  cases a with | mk p n gl =>
  cases b with | mk p2 n2 gl2 =>
  rw [← hg1] at c1 c3 c6 c8 ⊢
  rw [← hg2] at c1 c3 c6 c9 ⊢
  have E1 : encG g1 = .agg [.int .i64 p, .int .i64 n, .sl (gl.map encG) .free] := by rw [hg1, encG_mk]
  have E2 : encG g2 = .agg [.int .i64 p2, .int .i64 n2, .sl (gl2.map encG) .free] := by rw [hg2, encG_mk]
  simp only [List.map_cons, List.map_nil, E1, E2] at c1 c3 c6 c8 c9 ⊢
  refine ACalls.drop ?_
  refine acalls_code (rs := [.tmp 10]) Try.func10 rfl rfl rfl rfl Ty.mixed (by kernel_rfl) ?_
  simp (disch := omega) only [go_sem, seval]
  refine ACalls.det (sane25_calls Γ _) ?_
  simp (disch := omega) only [go_sem, seval]
  refine ACalls.det (ACalls.ofLoose (c1 _) (by simp [looseL, loose, loose_Gs])) ?_
  simp (disch := omega) only [go_sem, seval]
  cases hr : rgt1 g1 && rgt1 g2 with
  | false => simp (disch := omega) only [go_sem, seval]
  | true =>
  rw [Bool.and_eq_true] at hr
  have ra := rgt_rt hr.1
  have rb := rgt_rt hr.2
  simp (disch := omega) only [go_sem, seval]
  refine ACalls.det (c2 _) ?_
  simp (disch := omega) only [go_sem, seval]
  cases hfs : fewS25 l with
  | false => simp (disch := omega) only [go_sem, seval]
  | true =>
  obtain ⟨q1, q2⟩ := hf hfs
  simp (disch := omega) only [go_sem, seval, encII_len]
  refine aIf.intro (fun h2 => ?_) (fun h2 => ?_) <;> simp (disch := omega) only [go_sem, seval, encI_len]
  refine aIf.intro (fun h3 => ?_) (fun h3 => ?_) <;> simp (disch := omega) only [go_sem, seval, encI_len]
  refine ACalls.det (people_calls Γ who _ hw) ?_
  simp (disch := omega) only [go_sem, seval]
  cases hasc : ascF (-1) who with
  | false => simp (disch := omega) only [go_sem, seval]
  | true =>
  obtain ⟨x, m, k1, k2⟩ := more_says ra rb
  have hsh := acc_shape ra rb (l := l) (ins := ins) (by omega)
  have hso := acc_sound ra rb (l := l) (ins := ins) (by omega)
  have c6' := c6 (by omega) (fun s hs => by have := q2 s hs; omega) (by omega)
  rw [k1, encM] at c3
  rw [(permF_asc ra.c hasc).1, encR] at c8
  rw [(permF_asc rb.c hasc).1, encR] at c9
  rw [hsh] at hso c6'
  rw [encAc] at c6'
  have hpw : permits g1 g2 → permF g2 who = true → permF g1 who = true := fun hp => hp who hasc
  generalize (okL g1 l && insL l (setsF g2) ins) = v at hso c6'
  generalize permF g1 who = w1 at *
  generalize permF g2 who = w2 at *
  simp only at hso
  have fin : (v = true → m = false) ∧ (m = false → w2 = true → w1 = true) := ⟨fun e => k2.2 (hso e), fun e => hpw (k2.1 e)⟩
  simp (disch := omega) only [go_sem, seval]
  refine ACalls.det (c6' _) ?_
  simp (disch := omega) only [go_sem, seval]
  refine ACalls.det (c3 _) ?_
  simp (disch := omega) only [go_sem, seval]
  refine ACalls.det (c9 _) ?_
  simp (disch := omega) only [go_sem, seval]
  refine ACalls.det (c8 _) ?_
  simp (disch := omega) only [go_sem, seval]
  obtain ⟨f1, f2⟩ := fin
  cases v <;> cases m <;> cases w1 <;> cases w2 <;> first | (exfalso; simp at f1 f2; done) | simp (disch := omega) only [go_sem, seval]
theorem three_all (a b c : Gt) : [a, b, c].all rgt1 = (rgt1 a && (rgt1 b && rgt1 c)) := by simp
set_option maxHeartbeats 1600000 in
set_option maxRecDepth 100000 in
theorem cmpOrder_calls (Γ : Nat → Option (List AV)) (a b c : Gt) (h : AH) (ha : Sh a) (hb : Sh b) (hc : Sh c) :
    ACalls Try.prog Γ 11 [encG a, encG b, encG c] h fun v h' => h' = h ∧ v = .bool true := by
  have c1 := fun h => right25_calls Γ [a, b, c] h (by simp [ha, hb, hc]) (by simp)
  rw [three_all] at c1
  have c2 := fun h => pless_calls Γ a a h ha ha
  have c3 := fun h => psets_calls Γ a h ha
  have c4 := fun h => pless_calls Γ a b h ha hb
  have c5 := fun h => pless_calls Γ b c h hb hc
  have c6 := fun h => pless_calls Γ a c h ha hc
  obtain ⟨g1, hg1⟩ : ∃ g, g = a := ⟨_, rfl⟩
  obtain ⟨g2, hg2⟩ : ∃ g, g = b := ⟨_, rfl⟩
  obtain ⟨g3, hg3⟩ : ∃ g, g = c := ⟨_, rfl⟩
  cases a with | mk p n gl =>
  cases b with | mk p2 n2 gl2 =>
  cases c with | mk p3 n3 gl3 =>
  rw [← hg1] at c1 c2 c3 c4 c6 ⊢
  rw [← hg2] at c1 c4 c5 ⊢
  rw [← hg3] at c1 c5 c6 ⊢
  have E1 : encG g1 = .agg [.int .i64 p, .int .i64 n, .sl (gl.map encG) .free] := by rw [hg1, encG_mk]
  have E2 : encG g2 = .agg [.int .i64 p2, .int .i64 n2, .sl (gl2.map encG) .free] := by rw [hg2, encG_mk]
  have E3 : encG g3 = .agg [.int .i64 p3, .int .i64 n3, .sl (gl3.map encG) .free] := by rw [hg3, encG_mk]
  simp only [List.map_cons, List.map_nil, E1, E2, E3] at c1 c2 c3 c4 c5 c6 ⊢
  refine ACalls.drop ?_
  refine acalls_code (rs := [.tmp 6]) Try.func11 rfl rfl rfl rfl Ty.mixed (by kernel_rfl) ?_
  simp (disch := omega) only [go_sem, seval]
  refine ACalls.det (sane25_calls Γ _) ?_
  simp (disch := omega) only [go_sem, seval]
  refine ACalls.det (ACalls.ofLoose (c1 _) (by simp [looseL, loose, loose_Gs])) ?_
  simp (disch := omega) only [go_sem, seval]
  cases hr : rgt1 g1 && (rgt1 g2 && rgt1 g3) with
  | false => simp (disch := omega) only [go_sem, seval]
  | true =>
  rw [Bool.and_eq_true, Bool.and_eq_true] at hr
  have ra := rgt_rt hr.1
  have rb := rgt_rt hr.2.1
  have rc := rgt_rt hr.2.2
  rw [less_self ra, encL] at c2
  rw [ra.r, encS] at c3
  have hsl := sets_le ra
  obtain ⟨L, hL⟩ : ∃ L, L = (List.range (setsF g1).length).map fun (k : Nat) => (k : Int) := ⟨_, rfl⟩
  have hLl : L.length = (setsF g1).length := by rw [hL]; simp
  have hLk : ∀ (i : Nat) (x : Int), L[i]? = some x → x = i := fun i x e => by
    rw [hL, List.getElem?_map] at e
    obtain ⟨y, h1, rfl⟩ := Option.map_eq_some_iff.1 e
    obtain ⟨h2, h3⟩ := List.getElem?_eq_some_iff.1 h1
    rw [List.getElem_range] at h3; rw [h3]
  rw [encNs, ← hL] at c2
  have tr : permits g1 g2 → permits g2 g3 → permits g1 g3 := fun q1 q2 s h1 h2 => q1 s h1 (q2 s h1 h2)
  have i1 := less_iff ra rb
  have i2 := less_iff rb rc
  have i3 := less_iff ra rc
  have z1 := (more_less ra rb).2.2
  have z2 := (more_less rb rc).2.2
  have z3 := (more_less ra rc).2.2
  generalize lessR g1 g2 = r1 at *
  generalize lessR g2 g3 = r2 at *
  generalize lessR g1 g3 = r3 at *
  obtain ⟨x1, v1, e1⟩ := r1
  obtain ⟨x2, v2, e2⟩ := r2
  obtain ⟨x3, v3, e3⟩ := r3
  simp only at i1 i2 i3 z1 z2 z3
  subst z1; subst z2; subst z3
  rw [encL] at c4 c5 c6
  have fin : v1 = true → v2 = true → v3 = true := fun q1 q2 => i3.2 (tr (i1.1 q1) (i2.1 q2))
  simp (disch := omega) only [go_sem, seval]
  refine ACalls.det (c2 _) ?_
  simp (disch := omega) only [go_sem, seval]
  refine ACalls.det (c3 _) ?_
  simp (disch := omega) only [go_sem, seval, encI_len, encII_len]
  refine aIf.pos (by omega) ?_
  simp (disch := omega) only [go_sem, seval, encI_len]
  obtain ⟨K, hK⟩ : ∃ K : AH, K = h ++ [.row [.int .i64 p, .int .i64 n, .sl (gl.map encG) .free] 54, .row [.int .i64 p2, .int .i64 n2, .sl (gl2.map encG) .free] 54, .row [.int .i64 p3, .int .i64 n3, .sl (gl3.map encG) .free] 54] := ⟨_, rfl⟩
  have K1 : K[h.length]? = some (.row [.int .i64 p, .int .i64 n, .sl (gl.map encG) .free] 54) := by subst hK; simp
  have K2 : K[h.length + 1]? = some (.row [.int .i64 p2, .int .i64 n2, .sl (gl2.map encG) .free] 54) := by subst hK; simp
  have K3 : K[h.length + 2]? = some (.row [.int .i64 p3, .int .i64 n3, .sl (gl3.map encG) .free] 54) := by subst hK; simp
  have KD : ∃ l, K = h ++ l := by subst hK; exact ⟨_, rfl⟩
  rw [← hK]
  refine awp_loopL (β := Unit) L [3, 4, 5, 60, 61, 62] (fun don _ => [(3, .ptr (some (h.length, 0))), (4, .ptr (some (h.length + 1, 0))), (5, .ptr (some (h.length + 2, 0))), (60, .sl (encI L) .free), (61, .int .i64 L.length), (62, .int .i64 don.length)])
    (fun _ => K) (fun _ _ _ => True) () ?_ rfl trivial Ty.mixed (by kernel_rfl) ?_ ?_
  · simp (disch := omega) only [go_sem, seval, encI_len]
  · rintro don x r _ hd _
    have hlen : L.length = don.length + 1 + r.length := by rw [hd]; simp; omega
    have ex : L[don.length]? = some x := by rw [hd]; simp
    have e1 : (encI L)[don.length]? = some (.int .i64 x) := by simp [encI, ex]
    have hx := hLk _ _ ex
    subst hx
    simp (disch := omega) only [go_sem, seval, encI_len]
    refine aIf.pos (by omega) ?_
    simp (disch := omega) only [go_sem, seval, e1]
    refine roundL_next () trivial ?_ rfl
    simp (disch := omega) only [go_sem, seval, List.length_append]
  · intro _ _
    simp (disch := omega) only [go_sem, seval, encI_len]
    refine AWP.keep [3, 4, 5] (aCode_ok Ty.mixed _ _ _ _ (by kernel_rfl) ?_)
    simp (disch := omega) only [go_sem, seval, K1, K2, K3]
    refine ACalls.det (c4 _) ?_
    simp (disch := omega) only [go_sem, seval, K1, K2, K3]
    refine ACalls.det (c5 _) ?_
    simp (disch := omega) only [go_sem, seval, K1, K2, K3]
    refine ACalls.det (c6 _) ?_
    simp (disch := omega) only [go_sem, seval]
    cases v1 <;> cases v2 <;> cases v3 <;> first | (exfalso; simp at fin; done) | (simp (disch := omega) only [go_sem, seval]; done) | (simp (disch := omega) only [go_sem, seval]; exact KD)
end Go.Proofs.Ytelehpccfaedjaa
