/- Texts joined: LokM, LokN. No conditions. -/
import Derived.Test.YtlgamlamolfnlaaGreatMrAF
/- The reference's Safe and Accepts and what they ask; few and small. No conditions. -/
set_option linter.unusedSimpArgs false
set_option linter.unusedVariables false
namespace Go.Proofs.YtlgamlamolfnlaaGreat
open Go Go.Proofs Go.Abs

set_option maxRecDepth 100000 in
theorem apart26_calls (Γ : Nat → Option (List AV)) (a b : List Int) (h : AH) (ha : a.length ≤ 9223372036854775807) (hb : b.length ≤ 9223372036854775807) :
    ACalls Tryz.prog Γ 42 [.sl (encI a) .free, .sl (encI b) .free] h fun v h' => h' = h ∧ v = .bool (apartF a b) := by
  refine ACalls.drop ?_
  refine acalls_code (rs := [.tmp 4]) Tryz.func42 rfl rfl rfl rfl Ty.mixed (by kernel_rfl) ?_
  simp (disch := omega) only [go_sem, seval]
  refine awp_loopL (β := Unit) a [0, 1, 5] (fun don _ => [(0, .sl (encI a) .free), (1, .sl (encI b) .free), (5, .int .i64 don.length)]) (fun _ => h) (fun don r _ => ∀ x ∈ don, x ∉ b) () ?_ rfl (by simp) Ty.mixed (by kernel_rfl) ?_ ?_
  · simp (disch := omega) only [go_sem, seval]
  · rintro don x r _ rfl hd
    have hl3 := len_mid ha
    have e1 : (encI (don ++ x :: r))[don.length]? = some (.int .i64 x) := by simp [encI]
    simp (disch := omega) only [go_sem, seval, encI_len, List.length_append, List.length_cons]
    refine aIf.pos (by omega) ?_
    simp (disch := omega) only [go_sem, seval, encI_len, List.length_append, List.length_cons, e1]
    refine ACalls.det (has_calls Γ b x _ hb) ?_
    simp (disch := omega) only [go_sem, seval]
    refine aIf.intro (fun h1 => ?_) (fun h1 => ?_) <;> simp (disch := omega) only [go_sem, seval]
    · rw [apartF, decide_eq_false (fun e => e x (by simp) h1)]
    · refine roundL_next () ?_ ?_ rfl
      · intro y hy
        rcases List.mem_append.1 hy with hy | hy
        · exact hd y hy
        · rw [List.mem_singleton] at hy; subst hy; exact h1
      · simp (disch := omega) only [go_sem, seval, List.length_append]
  · intro _ hd
    simp (disch := omega) only [go_sem, seval, encI_len]
    refine AWP.keep [] (aCode_ok Ty.mixed _ _ _ _ (by kernel_rfl) ?_)
    simp (disch := omega) only [go_sem, seval]
    rw [apartF, decide_eq_true hd]
set_option maxRecDepth 100000 in
theorem inside26_calls (Γ : Nat → Option (List AV)) (l P : List Int) (h : AH) (hl : l.length ≤ 9223372036854775807) (hP : P.length ≤ 9223372036854775807) :
    ACalls Tryz.prog Γ 44 [.sl (encI l) .free, .sl (encI P) .free] h fun v h' => h' = h ∧ v = .bool (incF l && decide (∀ x ∈ l, x ∈ P)) := by
  refine ACalls.drop ?_
  refine acalls_code (rs := [.tmp 4]) Tryz.func44 rfl rfl rfl rfl Ty.mixed (by kernel_rfl) ?_
  simp (disch := omega) only [go_sem, seval]
  refine awp_loopL (β := Unit) l [0, 1, 5] (fun don _ => [(0, .sl (encI l) .free), (1, .sl (encI P) .free), (5, .int .i64 don.length)]) (fun _ => h) (fun don r _ => (∀ x ∈ don, x ∈ P) ∧ don.Pairwise (· < ·)) () ?_ rfl (by simp) Ty.mixed (by kernel_rfl) ?_ ?_
  · simp (disch := omega) only [go_sem, seval]
  · rintro don x r _ hl0 ⟨hd, hp⟩
    have hl3 : don.length + 1 + r.length ≤ 9223372036854775807 := by rw [hl0] at hl; simp at hl; omega
    have e1 : (encI (don ++ x :: r))[don.length]? = some (.int .i64 x) := by simp [encI]
    have hin : x ∈ P → ∀ y ∈ don ++ [x], y ∈ P := fun hx y hy => by
      rcases List.mem_append.1 hy with hy | hy
      · exact hd y hy
      · rw [List.mem_singleton] at hy; subst hy; exact hx
    simp (disch := omega) only [go_sem, seval, encI_len]
    rw [hl0]
    simp (disch := omega) only [go_sem, seval, encI_len, List.length_append, List.length_cons]
    refine aIf.pos (by omega) ?_
    simp (disch := omega) only [go_sem, seval, encI_len, List.length_append, List.length_cons, e1]
    refine aCallF.intro (fun _ => has_calls Γ P x _ hP) ?_
    simp (disch := omega) only [go_sem, seval]
    refine aIf.intro (fun h1 => ?_) (fun h1 => ?_) <;> simp (disch := omega) only [go_sem, seval]
    rotate_left
    · rw [decide_eq_false (fun e => h1 (e x (by simp))), Bool.and_false]
    rcases List.eq_nil_or_concat don with rfl | ⟨d, y, rfl⟩
    · refine aIf.neg (by simp) ?_
      simp (disch := omega) only [go_sem, seval]
      refine roundL_next () ⟨hin h1, by simp⟩ ?_ rfl
      simp (disch := omega) only [go_sem, seval, List.length_append, hl0]
    · rw [List.concat_eq_append] at *
      have e2 : (encI ((d ++ [y]) ++ x :: r))[d.length]? = some (.int .i64 y) := by simp [encI]
      have hl4 : d.length + 1 + 1 + r.length ≤ 9223372036854775807 := by simpa using hl3
      refine aIf.pos (by rw [List.length_append]; simp only [List.length_cons, List.length_nil]; omega) ?_
      simp (disch := omega) only [go_sem, seval, encI_len, List.length_append, List.length_cons, List.length_nil, e1, e2]
      have e3 : (encI ((d ++ [y]) ++ x :: r))[d.length + 1]? = some (.int .i64 x) := by simp [encI]
      refine ⟨by omega, ?_⟩
      rw [show ((d.length : Int) + 1).toNat = d.length + 1 from by omega]
      simp (disch := omega) only [go_sem, seval, encI_len, List.length_append, List.length_cons, List.length_nil, e3, e2]
      refine aIf.intro (fun h2 => ?_) (fun h2 => ?_) <;> simp (disch := omega) only [go_sem, seval]
      · have : incF (d ++ [y] ++ x :: r) = false := by
          cases hi : incF (d ++ [y] ++ x :: r) with
          | false => rfl
          | true =>
            rw [incF_iff, List.pairwise_append] at hi
            have := hi.2.2 y (by simp) x (by simp)
            omega
        rw [this, Bool.false_and]
      · refine roundL_next () ⟨hin h1, ?_⟩ ?_ rfl
        · rw [List.pairwise_append] at hp ⊢
          rw [List.pairwise_append]
          refine ⟨hp, by simp, fun a ha b hb => ?_⟩
          rw [List.mem_singleton] at hb
          subst hb
          rcases List.mem_append.1 ha with ha | ha
          · have := hp.2.2 a ha y (by simp); omega
          · rw [List.mem_singleton] at ha; subst ha; omega
        · simp (disch := omega) only [go_sem, seval, List.length_append, hl0]
  · rintro _ ⟨hd, hp⟩
    simp (disch := omega) only [go_sem, seval, encI_len]
    refine AWP.keep [] (aCode_ok Ty.mixed _ _ _ _ (by kernel_rfl) ?_)
    simp (disch := omega) only [go_sem, seval]
    rw [(incF_iff l).2 hp, decide_eq_true hd, Bool.and_self]
set_option maxHeartbeats 800000 in
set_option maxRecDepth 100000 in
theorem rsafe26_calls (Γ : Nat → Option (List AV)) (g : Gt) (most : Int) (h : AH) (hs : Sh g) :
    ACalls Tryz.prog Γ 14 [encG g, .int .i64 most] h fun v h' => h' = h ∧ v = encSf (safeR g most) := by
  have c0 := fun h => rerr26_calls Γ g most h hs
  have c1 := fun h => rsets_calls Γ g h hs
  have c2 := fun hk h => rgreat26_calls Γ g most h hs hk
  cases g with | mk p n gl =>
  obtain ⟨g, hg⟩ : ∃ g, g = Gt.mk p n gl := ⟨_, rfl⟩
  have eG : encG g = .agg [.int .i64 p, .int .i64 n, .sl (gl.map encG) .free] := by rw [hg, encG_mk]
  rw [← hg] at c0 c1 c2 hs ⊢
  rw [eG] at c0 c1 c2
  rw [eG]
  refine ACalls.dropL ?_
  refine acalls_code (rs := [.tmp 4, .tmp 5, .tmp 6]) Tryz.func14 rfl rfl rfl rfl Ty.mixed (by kernel_rfl) ?_
  simp (disch := omega) only [go_sem, seval]
  refine ACalls.det (c0 _) ?_
  simp (disch := omega) only [go_sem, seval]
  refine aIf.intro (fun herr => ?_) (fun herr => ?_) <;> simp (disch := omega) only [go_sem, seval]
  rotate_left
  · rw [safeR, if_neg herr]
    rfl
  rw [safeR, if_pos herr]
  have hk := errL_ok herr
  have c2 := c2 hk
  rw [hk.r, encS] at c1
  have hP := ppl_lt hk.c
  have hn := hk.n
  have hss := hk.s
  have hsl : ∀ s ∈ setsF g, s.length ≤ 12 := fun s hs => by
    have := ((mem_mins hP s).1 hs).1.length_le; omega
  obtain ⟨S, hS⟩ : ∃ S, S = setsF g := ⟨_, rfl⟩
  obtain ⟨L, hL⟩ : ∃ L, L = greatF g most := ⟨_, rfl⟩
  have hLl : L.length ≤ 4096 := by
    have h1 := choose_pow (pplF g) (topF g most)
    have h2 : 2 ^ (pplF g).length ≤ 2 ^ 12 := Nat.pow_le_pow_right (by decide) hn
    have h3 := List.length_filter_le (permF g) (chooseF (pplF g) (topF g most))
    rw [hL, greatF]; omega
  have hLx : ∀ x ∈ L, x.length ≤ 12 := fun x hx => by
    rw [hL, greatF] at hx
    have := choose_mem _ _ x (List.mem_filter.1 hx).1
    have h2 : topF g most ≤ (pplF g).length := Nat.min_le_right _ _
    omega
  rw [← hS] at c1 hss hsl ⊢
  rw [← hL] at c2 ⊢
  refine ACalls.det (c1 _) ?_
  simp (disch := omega) only [go_sem, seval]
  refine ACalls.det (c2 _) ?_
  simp (disch := omega) only [go_sem, seval]
  obtain ⟨K, hK⟩ : ∃ K : AH, K = h ++ [.row [.int .i64 p, .int .i64 n, .sl (gl.map encG) .free] 24] := ⟨_, rfl⟩
  have KD : ∀ j : AH, ∃ l, K ++ j = h ++ l := by subst hK; intro j; exact ⟨_, List.append_assoc ..⟩
  rw [← hK]
  refine awp_loopL (β := ChT) L [8, 10, 11, 12] (fun don s => [(8, .sl (encII S) .free), (10, .sl (encII L) .free), (11, .sl (encII s.out) s.own), (12, .int .i64 don.length)])
    (fun s => K ++ s.j) (fun don _ s => OwnAt K s.j s.out.length s.own ∧ safeF S don = some s.out) ⟨[], .full, []⟩ ?_ (by simp) ⟨trivial, rfl⟩ Ty.mixed (by kernel_rfl) ?_ ?_
  · simp (disch := omega) only [go_sem, seval]
    rfl
  · rintro don x r ⟨out, own, j⟩ hd ⟨ho, hsf⟩
    simp only at ho hsf ⊢
    have hxl := hLx x (by rw [hd]; simp)
    have hol := (safe_len _ _ _ hsf).1
    have hl3 : don.length + 1 + r.length = L.length := by rw [hd]; simp; omega
    have e1 : (encII L)[don.length]? = some (.sl (encI x) .free) := by rw [hd]; exact encII_get don r x
    simp (disch := omega) only [go_sem, seval, encII_len]
    refine aIf.pos (by omega) ?_
    simp (disch := omega) only [go_sem, seval]
    refine awp_loopL (β := Unit) S [8, 10, 11, 12, 13] (fun dn _ => [(8, .sl (encII S) .free), (10, .sl (encII L) .free), (11, .sl (encII out) own), (12, .int .i64 don.length), (13, .int .i64 dn.length)])
      (fun _ => K ++ j) (fun dn _ _ => ∀ s ∈ dn, apartF s x = false) () ?_ rfl (by simp) Ty.mixed (by kernel_rfl) ?_ ?_
    · simp (disch := omega) only [go_sem, seval]
    · rintro dn s rs _ hds hdn
      have hsl2 := hsl s (by rw [hds]; simp)
      have hl4 : dn.length + 1 + rs.length = S.length := by rw [hds]; simp; omega
      have e2 : (encII S)[dn.length]? = some (.sl (encI s) .free) := by rw [hds]; exact encII_get dn rs s
      simp (disch := omega) only [go_sem, seval, encII_len]
      refine aIf.pos (by omega) ?_
      simp (disch := omega) only [go_sem, seval, encII_len, e1, e2]
      refine aCallF.intro (fun _ => apart26_calls Γ s x _ (by omega) (by omega)) ?_
      simp (disch := omega) only [go_sem, seval]
      cases hap : apartF s x with
      | false =>
        simp (disch := omega) only [go_sem, seval]
        refine roundL_next () ?_ ?_ rfl
        · intro y hy
          rcases List.mem_append.1 hy with hy | hy
          · exact hdn y hy
          · rw [List.mem_singleton] at hy; subst hy; exact hap
        · simp (disch := omega) only [go_sem, seval, List.length_append]
      | true =>
        have hf : S.find? (fun s => apartF s x) = some s := by
          rw [hds, List.find?_append, List.find?_eq_none.2 (fun y hy => by rw [hdn y hy]; simp), List.find?_cons, hap]; rfl
        simp (disch := omega) only [go_sem, seval]
        refine AWP.keep [8, 10, 11, 12, 13] (aCode_ok Ty.mixed _ _ _ _ (by kernel_rfl) ?_)
        simp (disch := omega) only [go_sem, seval, encII_len]
        refine aIf.neg (by omega) ?_
        simp (disch := omega) only [go_sem, seval, encII_len, e2]
        refine aAp_sl (by rw [encII_len]; exact ho) (rowsOK_II _) (rowsOK_II [s]) (by simp [encII_len]; omega) (by simp [encII_len]; omega) fun j' own' ho' hg' => ?_
        rw [encII_snoc]
        simp (disch := omega) only [go_sem, seval]
        refine AWP.keep [8, 10, 11, 12] (aCode_ok Ty.mixed _ _ _ _ (by kernel_rfl) ?_)
        simp (disch := omega) only [go_sem, seval]
        refine roundL_next ⟨out ++ [s], own', j'⟩ ⟨by simpa [encII_len] using ho', safe_snoc hsf hf⟩ ?_ rfl
        simp (disch := omega) only [go_sem, seval, List.length_append]
    · intro _ hdn
      simp (disch := omega) only [go_sem, seval, encII_len]
      refine AWP.keep [8, 10, 11, 12, 13] (aCode_ok Ty.mixed _ _ _ _ (by kernel_rfl) ?_)
      simp (disch := omega) only [go_sem, seval, encII_len]
      have hf : S.find? (fun s => apartF s x) = none := List.find?_eq_none.2 fun y hy => by rw [hdn y hy]; simp
      rw [hd, safe_stop hf]
      exact ⟨KD _, rfl⟩
  · rintro ⟨out, own, j⟩ ⟨ho, hsf⟩
    simp only at ho hsf ⊢
    simp (disch := omega) only [go_sem, seval, encII_len]
    refine AWP.keep [11] (aCode_ok Ty.mixed _ _ _ _ (by kernel_rfl) ?_)
    simp (disch := omega) only [go_sem, seval]
    rw [hsf]
    exact ⟨KD _, rfl⟩
theorem acc_len {g : Gt} : ∀ {l o : List (List Int)}, accF g l o = true → l.length = o.length
  | [], [], _ => rfl
  | c :: r, s :: o, h => by
    rw [accF, Bool.and_eq_true] at h
    rw [List.length_cons, List.length_cons, acc_len h.2]
  | [], _ :: _, h => by simp [accF] at h
  | _ :: _, [], h => by simp [accF] at h
set_option maxHeartbeats 800000 in
set_option maxRecDepth 100000 in
theorem raccepts26_calls (Γ : Nat → Option (List AV)) (g : Gt) (most : Int) (others : List (List Int)) (h : AH) (hs : Sh g) (hol : others.length ≤ 9223372036854775807) (hoo : ∀ o ∈ others, o.length ≤ 9223372036854775807) :
    ACalls Tryz.prog Γ 16 [encG g, .int .i64 most, .sl (encII others) .free] h fun v h' => h' = h ∧ v = encAc (accR g most others) := by
  have c0 := fun h => rerr26_calls Γ g most h hs
  have c2 := fun hk h => rgreat26_calls Γ g most h hs hk
  have c4 := fun x hx h => rholds26_calls Γ g x h hs hx
  cases g with | mk p n gl =>
  obtain ⟨g, hg⟩ : ∃ g, g = Gt.mk p n gl := ⟨_, rfl⟩
  have eG : encG g = .agg [.int .i64 p, .int .i64 n, .sl (gl.map encG) .free] := by rw [hg, encG_mk]
  rw [← hg] at c0 c2 c4 hs ⊢
  rw [eG] at c0 c2 c4
  rw [eG]
  refine ACalls.drop ?_
  refine acalls_code (rs := [.tmp 6, .tmp 7]) Tryz.func16 rfl rfl rfl rfl Ty.mixed (by kernel_rfl) ?_
  simp (disch := omega) only [go_sem, seval]
  refine ACalls.det (c0 _) ?_
  simp (disch := omega) only [go_sem, seval]
  refine aIf.intro (fun herr => ?_) (fun herr => ?_) <;> simp (disch := omega) only [go_sem, seval]
  rotate_left
  · rw [accR, if_neg herr]
    rfl
  rw [accR, if_pos herr]
  have hk := errL_ok herr
  have c2 := c2 hk
  have hlv := hk.lv
  have c1 := fun h => ppl26_calls Γ g h hs (by omega)
  rw [eG] at c1
  have hn := hk.n
  obtain ⟨L, hL⟩ : ∃ L, L = greatF g most := ⟨_, rfl⟩
  have hLl : L.length ≤ 4096 := by
    have h1 := choose_pow (pplF g) (topF g most)
    have h2 : 2 ^ (pplF g).length ≤ 2 ^ 12 := Nat.pow_le_pow_right (by decide) hn
    have h3 := List.length_filter_le (permF g) (chooseF (pplF g) (topF g most))
    rw [hL, greatF]; omega
  have hLx : ∀ x ∈ L, x.length ≤ 12 := fun x hx => by
    rw [hL, greatF] at hx
    have := choose_mem _ _ x (List.mem_filter.1 hx).1
    have h2 : topF g most ≤ (pplF g).length := Nat.min_le_right _ _
    omega
  rw [← hL] at c2 ⊢
  refine ACalls.det (c2 _) ?_
  simp (disch := omega) only [go_sem, seval, encII_len]
  by_cases hlen : L.length = others.length
  rotate_left
  · refine aIf.neg (by omega) ?_
    simp (disch := omega) only [go_sem, seval]
    have : accF g L others = false := by
      cases ha : accF g L others with
      | false => rfl
      | true => exact absurd (acc_len ha) hlen
    rw [this]; rfl
  refine aIf.pos (by omega) ?_
  simp (disch := omega) only [go_sem, seval]
  refine ACalls.det (c1 _) ?_
  simp (disch := omega) only [go_sem, seval]
  obtain ⟨K, hK⟩ : ∃ K : AH, K = h ++ [.row [.int .i64 p, .int .i64 n, .sl (gl.map encG) .free] 24] := ⟨_, rfl⟩
  have Kg : K[h.length]? = some (.row [.int .i64 p, .int .i64 n, .sl (gl.map encG) .free] 24) := by rw [hK]; simp
  rw [← hK]
  refine awp_loopL (β := Unit) L [2, 3, 9, 10, 11] (fun don _ => [(2, .sl (encII others) .free), (3, .ptr (some (h.length, 0))), (9, .sl (encII L) .free), (10, .sl (encI (pplF g)) .free), (11, .int .i64 don.length)])
    (fun _ => K) (fun don _ _ => ∃ os s, others = os ++ s ∧ os.length = don.length ∧ accF g don os = true) () ?_ rfl ⟨[], others, rfl, rfl, rfl⟩ Ty.mixed (by kernel_rfl) ?_ ?_
  · simp (disch := omega) only [go_sem, seval]
  · rintro don x r _ hd ⟨os, s, k1, k2, k3⟩
    have hxl := hLx x (by rw [hd]; simp)
    have hl3 : don.length + 1 + r.length = L.length := by rw [hd]; simp; omega
    have e1 : (encII L)[don.length]? = some (.sl (encI x) .free) := by rw [hd]; exact encII_get don r x
    cases s with
    | nil => rw [k1] at hlen; simp at hlen; omega
    | cons o s =>
    have e2 : (encII others)[don.length]? = some (.sl (encI o) .free) := by rw [k1, ← k2]; exact encII_get os s o
    have hon := hoo o (by rw [k1]; simp)
    have hnot : okO g x o = false → accF g L others = false := fun he => by
      rw [hd, k1, acc_app k2, accF, he]; simp
    simp (disch := omega) only [go_sem, seval, encII_len]
    refine aIf.pos (by omega) ?_
    simp (disch := omega) only [go_sem, seval, encII_len, e1, e2]
    refine aCallF.intro (fun _ => inside26_calls Γ o (pplF g) _ hon (by omega)) ?_
    simp (disch := omega) only [go_sem, seval]
    cases hin : (incF o && decide (∀ x ∈ o, x ∈ pplF g)) with
    | false =>
      simp (disch := omega) only [go_sem, seval]
      rw [hnot (by rw [okO, hin]; simp)]
      exact ⟨⟨_, hK⟩, rfl⟩
    | true =>
      simp (disch := omega) only [go_sem, seval, encII_len, e1, e2]
      refine aCallF.intro (fun _ => apart26_calls Γ o x _ hon (by omega)) ?_
      simp (disch := omega) only [go_sem, seval]
      cases hap : apartF o x with
      | false =>
        simp (disch := omega) only [go_sem, seval]
        rw [hnot (by rw [okO, hap]; simp)]
        exact ⟨⟨_, hK⟩, rfl⟩
      | true =>
        simp (disch := omega) only [go_sem, seval, encII_len, e1, e2, Kg]
        refine aCallF.intro (fun _ => c4 o hon _) ?_
        simp (disch := omega) only [go_sem, seval]
        cases hp : permF g o with
        | false =>
          simp (disch := omega) only [go_sem, seval]
          rw [hnot (by rw [okO, hp]; simp)]
          exact ⟨⟨_, hK⟩, rfl⟩
        | true =>
          simp (disch := omega) only [go_sem, seval]
          refine roundL_next () ⟨os ++ [o], s, by rw [k1]; simp, by simp [k2], ?_⟩ ?_ rfl
          · rw [acc_app k2, k3, accF, okO, hin, hap, hp]; rfl
          · simp (disch := omega) only [go_sem, seval, List.length_append]
  · rintro _ ⟨os, s, k1, k2, k3⟩
    simp (disch := omega) only [go_sem, seval, encII_len]
    refine AWP.keep [] (aCode_ok Ty.mixed _ _ _ _ (by kernel_rfl) ?_)
    simp (disch := omega) only [go_sem, seval]
    have hs0 : s = [] := by
      rw [k1] at hlen
      exact List.length_eq_zero_iff.1 (by simp at hlen; omega)
    rw [hs0, List.append_nil] at k1
    rw [k1, k3]
    exact ⟨⟨_, hK⟩, rfl⟩
end Go.Proofs.YtlgamlamolfnlaaGreat

/- Few and small formulas (lockout); the law's own functions. No conditions. -/
set_option linter.unusedSimpArgs false
set_option linter.unusedVariables false
namespace Go.Proofs.YtlgamlamolfnlaaGreat
open Go Go.Proofs Go.Abs

def few26F (g : Gt) : Bool := if 40 < leaves g 40 then decide (256 < leaves g 300) && decide (leaves g 300 ≤ 300) else decide ((pplF g).length ≤ 7) || decide (12 < (pplF g).length)
def small26F (g : Gt) (most : Int) : Bool := decide (leaves g 40 ≤ 40) && decide ((pplF g).length ≤ 7) && decide (errL g most = 0)
theorem leaves40 {g : Gt} (h : leaves g 40 ≤ 40) : allLeaves g ≤ 40 := by
  have := leaves_all g 40 (by omega)
  omega
set_option maxRecDepth 100000 in
theorem few26_calls (Γ : Nat → Option (List AV)) (g : Gt) (h : AH) (hs : Sh g) : ACalls Tryz.prog Γ 9 [encG g] h fun v h' => h' = h ∧ v = .bool (few26F g) := by
  refine ACalls.drop ?_
  refine acalls_code (rs := [.tmp 2]) Tryz.func9 rfl rfl rfl rfl Ty.mixed (by kernel_rfl) ?_
  simp (disch := omega) only [go_sem, seval]
  refine ACalls.det (leaves_calls Γ g 40 _ (by omega) (by omega)) ?_
  simp (disch := omega) only [go_sem, seval]
  refine aIf.intro (fun h1 => ?_) (fun h1 => ?_) <;> simp (disch := omega) only [go_sem, seval]
  · refine ACalls.det (leaves_calls Γ g 300 _ (by omega) (by omega)) ?_
    simp (disch := omega) only [go_sem, seval]
    rw [few26F, if_pos h1]
    refine aIf.intro (fun h2 => ?_) (fun h2 => ?_) <;> simp (disch := omega) only [go_sem, seval]
    · simp [h2]
    · simp [h2]
  · refine ACalls.det (ppl26_calls Γ g _ hs (by have := leaves40 (g := g) (by omega); omega)) ?_
    simp (disch := omega) only [go_sem, seval, encI_len]
    rw [few26F, if_neg h1]
    refine aIf.intro (fun h2 => ?_) (fun h2 => ?_) <;> simp (disch := omega) only [go_sem, seval]
    · rw [decide_eq_true (show (pplF g).length ≤ 7 by omega), Bool.true_or]
    · rw [decide_eq_false (show ¬ (pplF g).length ≤ 7 by omega), Bool.false_or]
      exact congrArg AV.bool (decide_eq_decide.2 (by omega))
set_option maxRecDepth 100000 in
theorem small26_calls (Γ : Nat → Option (List AV)) (g : Gt) (most : Int) (h : AH) (hs : Sh g) : ACalls Tryz.prog Γ 18 [encG g, .int .i64 most] h fun v h' => h' = h ∧ v = .bool (small26F g most) := by
  refine ACalls.drop ?_
  refine acalls_code (rs := [.tmp 4]) Tryz.func18 rfl rfl rfl rfl Ty.mixed (by kernel_rfl) ?_
  simp (disch := omega) only [go_sem, seval]
  refine ACalls.det (leaves_calls Γ g 40 _ (by omega) (by omega)) ?_
  simp (disch := omega) only [go_sem, seval]
  refine aIf.intro (fun h1 => ?_) (fun h1 => ?_) <;> simp (disch := omega) only [go_sem, seval]
  rotate_left
  · rw [small26F, decide_eq_false h1]; rfl
  refine ACalls.det (ppl26_calls Γ g _ hs (by have := leaves40 (g := g) (by omega); omega)) ?_
  simp (disch := omega) only [go_sem, seval, encI_len]
  rw [small26F, decide_eq_true h1]
  refine aIf.intro (fun h2 => ?_) (fun h2 => ?_) <;> simp (disch := omega) only [go_sem, seval]
  rotate_left
  · rw [decide_eq_false (show ¬ (pplF g).length ≤ 7 by omega)]; rfl
  refine ACalls.det (rerr26_calls Γ g most _ hs) ?_
  simp (disch := omega) only [go_sem, seval]
  rw [decide_eq_true (show (pplF g).length ≤ 7 by omega)]; rfl
end Go.Proofs.YtlgamlamolfnlaaGreat
