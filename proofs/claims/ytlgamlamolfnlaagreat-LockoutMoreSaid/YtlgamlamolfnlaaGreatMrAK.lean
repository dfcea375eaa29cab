/- Texts joined: LokU. No conditions. -/
import Derived.Test.YtlgamlamolfnlaaGreatMrAJ
/- The law LockoutEither: the code. No conditions. -/
set_option linter.unusedSimpArgs false
set_option linter.unusedVariables false
namespace Go.Proofs.YtlgamlamolfnlaaGreat
open Go Go.Proofs Go.Abs

/-! ### Two lists of one's own -/
def DisO : Abs.Own → Abs.Own → Prop
  | .arena i, .arena k => i ≠ k
  | _, _ => True
theorem DisO.symm {a b : Abs.Own} (h : DisO a b) : DisO b a := by
  cases a <;> cases b <;> first | trivial | exact fun e => h e.symm
theorem aAp_two {n by_ n2 : Nat} {rows xs : List AV} {own own2 o : Abs.Own} {K j : AH} {C : AV → AH → Prop} (ho : OwnAt K j rows.length own) (ho2 : OwnAt K j n2 own2) (hd : DisO own own2) (h1 : RowsOK n rows) (h2 : RowsOK n xs)
    (h3 : rows.length + xs.length ≤ 9223372036854775807) (h4 : (rows.length + xs.length) * by_ ≤ 140737488355328)
    (H : ∀ j' own', OwnAt K j' (rows.length + xs.length) own' → OwnAt K j' n2 own2 → DisO own' own2 → C (.sl (rows ++ xs) own') (K ++ j')) : aAp (some (n, by_)) (.sl rows own) (.sl xs o) (K ++ j) C := by
  refine ⟨xs, rfl, h1, h2, h3, h4, ?_⟩
  cases own with
  | free => exact ho.elim
  | full =>
    have := H (j ++ [.arena (rows.length + xs.length)]) (.arena (K.length + j.length)) ⟨j.length, rfl, by simp⟩ (ho2.app _) (by
      cases own2 with
      | arena k => obtain ⟨k', rfl, e⟩ := ho2; have := hget_of e; exact fun e' => by omega
      | _ => trivial)
    simpa [List.append_assoc] using this
  | arena i =>
    obtain ⟨i', rfl, e⟩ := ho
    have e' : (K ++ j)[K.length + i']? = some (.arena rows.length) := by rw [hget_add]; exact e
    show (match (K ++ j)[K.length + i']? with
      | some (.arena m) => m = rows.length ∧ C (.sl (rows ++ xs) (.arena (K.length + i'))) ((K ++ j).set (K.length + i') (.arena (rows.length + xs.length)))
      | _ => False)
    rw [e']
    refine ⟨rfl, ?_⟩
    rw [hset_add]
    have hi : i' < j.length := (List.getElem?_eq_some_iff.1 e).1
    refine H _ _ ⟨i', rfl, by rw [List.getElem?_set_self hi]⟩ ?_ hd
    cases own2 with
    | full => trivial
    | free => exact ho2
    | arena k =>
      obtain ⟨k', rfl, e2⟩ := ho2
      have hne : i' ≠ k' := fun e' => hd (by rw [e'])
      exact ⟨k', rfl, by rw [List.getElem?_set_ne hne]; exact e2⟩
structure TwS where
  l : List Int
  own : Abs.Own
  l2 : List Int
  own2 : Abs.Own
  j : AH
/-- What the law asks of a formula's answers, in plain words. -/
structure EitherF (g : Gt) (most : Int) (others : List (List Int)) (s w : List Int) (ok : Bool) (l : List (List Int)) (any : Bool) : Prop where
  lk : lockR g most = (w, ok, 0)
  sf : safeR g most = (l, !ok, 0)
  ac : accR g most others = (any, 0)
  no : ok = true → any = false
  w0 : ok = false → w = []
  l0 : ok = true → l = []
  own : ok = false → accR g most l = (true, 0)
  s : permF g s = true → permF g (wtF (pplF g) s) = false → (s.length : Int) ≤ most → ok = true ∧ w.length ≤ s.length
  w : ok = true → w.Sublist (pplF g) ∧ permF g w = true ∧ permF g (wtF (pplF g) w) = false ∧ (w.length : Int) ≤ most
theorem either_facts {g : Gt} {most : Int} {others : List (List Int)} {s : List Int} (h : errL g most = 0) (hs : s.Sublist (pplF g)) : ∃ w ok l any, EitherF g most others s w ok l any := by
  have hk := errL_ok h
  obtain ⟨h1, _, h3⟩ := lock_or_safe h
  obtain ⟨any, hac⟩ : ∃ any, accR g most others = (any, 0) := ⟨_, by rw [accR, if_pos h]⟩
  have hany : (lockR g most).2.1 = true → any = false := fun hl => by
    cases any with
    | false => rfl
    | true =>
      rw [accR, if_pos h] at hac
      rw [acc_no_lock h (Prod.mk.injEq .. ▸ hac).1] at hl; cases hl
  have hst : (s.length : Int) ≤ most → s.length ≤ topF g most := fun hm => by
    have := hs.length_le
    rw [topF]; omega
  rcases lock_cases h with ⟨w, e1, e2, e3, e4, e5⟩ | ⟨e1, e2⟩
  · have hsafe : safeR g most = ([], false, 0) := by
      rw [e1] at h1
      rw [safeR, if_pos h] at h1 ⊢
      cases hf : safeF (setsF g) (greatF g most) with
      | none => rfl
      | some l => rw [hf] at h1; cases h1
    simp only [locksF, Bool.and_eq_true, Bool.not_eq_true'] at e5
    have ht := top_le g most hk.m.1
    refine ⟨w, true, [], any, e1, hsafe, hac, fun _ => hany (by rw [e1]), (fun e => by cases e), fun _ => rfl, (fun e => by cases e), fun p1 p2 p3 => ⟨rfl, ?_⟩, fun _ => ⟨e3, e5.1, e5.2, by omega⟩⟩
    exact up_first hk.p e2 hs (Nat.lt_succ_of_le (hst p3)) (by simp [locksF, p1, p2])
  · obtain ⟨l, hf⟩ : ∃ l, safeF (setsF g) (greatF g most) = some l := by
      rw [e1, safeR, if_pos h] at h1
      cases hf : safeF (setsF g) (greatF g most) with
      | none => rw [hf] at h1; cases h1
      | some l => exact ⟨l, rfl⟩
    refine ⟨[], false, l, any, e1, by rw [safeR, if_pos h, hf]; rfl, hac, (fun e => by cases e), fun _ => rfl, (fun e => by cases e), fun _ => ?_, fun p1 p2 p3 => ?_, (fun e => by cases e)⟩
    · rw [accR, if_pos h, safe_acc hk.c _ _ hf]
    · have := e2 s hs (hst p3)
      simp [locksF, p1, p2] at this
set_option maxHeartbeats 1600000 in
set_option maxRecDepth 100000 in
theorem lockEither_calls (Γ : Nat → Option (List AV)) (g : Gt) (most : Int) (m : Nat) (others : List (List Int)) (h : AH) (hs : Sh g) (hm : m < 256) (hol : others.length ≤ 9223372036854775807) (hoo : ∀ o ∈ others, o.length ≤ 9223372036854775807) :
    ACalls Tryz.prog Γ 5 [encG g, .int .i64 most, .int .u8 m, .sl (encII others) .free] h fun v h' => h' = h ∧ v = .bool true := by
  have c1 := fun h => small26_calls Γ g most h hs
  cases hu : small26F g most with
  | false =>
    rw [hu] at c1
    cases g with | mk p n gl =>
    simp only [encG_mk] at c1 ⊢
    refine ACalls.drop ?_
    refine acalls_code (rs := [.tmp 8]) Tryz.func5 rfl rfl rfl rfl Ty.mixed (by kernel_rfl) ?_
    simp (disch := omega) only [go_sem, seval]
    refine ACalls.det (sane26_calls Γ _) ?_
    simp (disch := omega) only [go_sem, seval]
    refine ACalls.det (c1 _) ?_
    simp (disch := omega) only [go_sem, seval]
  | true =>
    have hok := small26_ok hu
    rw [hu] at c1
    have hk := errL_ok hok.e
    have hpn := hok.n
    have hP := ppl_lt hk.c
    have hlv := hok.lv
    have hwho := listF_sub (pplF g) m
    have hwl := hwho.length_le
    have hnw := listN_wt (pplF g) m (pw_nodup hP)
    have hol2 := wtF_len (pplF g) (listF (pplF g) m)
    have ha1 := sub_asc hk.c hwho
    have ha2 := sub_asc hk.c (wt_sub (pplF g) (listF (pplF g) m))
    obtain ⟨w, ok, l, any, F⟩ := either_facts (others := others) hok.e hwho
    have hll := safeR_len g most
    rw [F.sf] at hll
    have c2 := fun h => ppl26_calls Γ g h hs (by omega)
    have c3 := fun h => Holds_calls Γ g (listF (pplF g) m) h hs (by omega)
    have c5 := fun h => Holds_calls Γ g (wtF (pplF g) (listF (pplF g) m)) h hs (by omega)
    have c6 := fun h => lockout_calls Γ g most h hs
    have c7 := fun h => safe26_calls Γ g most h hs
    have c8 := fun h => accepts_calls Γ g most others h hs hol hoo
    have c9 := fun h => accepts_calls Γ g most l h hs (by have := hll.1; simp only at this; omega) (fun s k => by have := hll.2 s k; omega)
    have c10 := fun (hk2 : ok = true) h => Holds_calls Γ g w h hs (by have := (F.w hk2).1.length_le; omega)
    have c11 := fun (hk2 : ok = true) h => others26_calls Γ (pplF g) w h (by omega) (by have := (F.w hk2).1.length_le; omega)
    have c12 := fun (hk2 : ok = true) h => Holds_calls Γ g (wtF (pplF g) w) h hs (by have := wtF_len (pplF g) w; omega)
    have e10 : ok = true → holdsR g w = (true, 0) := fun hk2 => by
      obtain ⟨q1, q2, _⟩ := F.w hk2
      rw [(permF_asc hk.c (sub_asc hk.c q1)).1, q2]
    have e12 : ok = true → holdsR g (wtF (pplF g) w) = (false, 0) := fun hk2 => by
      obtain ⟨_, _, q2, _⟩ := F.w hk2
      rw [(permF_asc hk.c (sub_asc hk.c (wt_sub (pplF g) w))).1, q2]
    have hwm := fun hk2 => (F.w hk2).2.2.2
    rw [(permF_asc hk.c ha1).1, encR] at c3
    rw [(permF_asc hk.c ha2).1, encR] at c5
    rw [F.lk, encLk] at c6
    rw [F.sf, encSf] at c7
    rw [F.ac, encAc] at c8
    have f1 := F.no
    have f2 := F.w0
    have f3 := F.l0
    have f4 := F.own
    have f5 := F.s
    rw [← hnw] at c5 f5
    generalize permF g (listF (pplF g) m) = b1 at *
    generalize permF g (listN (pplF g) m) = b2 at *
    generalize hPe : pplF g = P at *
    clear hk hok hPe hu ha1 ha2 hll F hP hol2
    cases g with | mk p n gl =>
    obtain ⟨g, hg⟩ : ∃ g, g = Gt.mk p n gl := ⟨_, rfl⟩
    have eG : encG g = .agg [.int .i64 p, .int .i64 n, .sl (gl.map encG) .free] := by rw [hg, encG_mk]
    rw [← hg] at c1 c2 c3 c5 c6 c7 c8 c9 c10 c12 e10 e12 f4 ⊢
    rw [eG] at c1 c2 c3 c5 c6 c7 c8 c9 c10 c12 ⊢
    refine ACalls.drop ?_
    refine acalls_code (rs := [.tmp 8]) Tryz.func5 rfl rfl rfl rfl Ty.mixed (by kernel_rfl) ?_
    simp (disch := omega) only [go_sem, seval]
    refine ACalls.det (sane26_calls Γ _) ?_
    simp (disch := omega) only [go_sem, seval]
    refine ACalls.det (c1 _) ?_
    simp (disch := omega) only [go_sem, seval, encII_len]
    refine aIf.intro (fun hlen => ?_) (fun hlen => ?_) <;> simp (disch := omega) only [go_sem, seval]
    refine ACalls.det (c6 _) ?_
    simp (disch := omega) only [go_sem, seval]
    refine ACalls.det (c7 _) ?_
    simp (disch := omega) only [go_sem, seval]
    refine ACalls.det (c8 _) ?_
    obtain ⟨K, hK⟩ : ∃ K : AH, K = h ++ [.row [.int .i64 p, .int .i64 n, .sl (gl.map encG) .free] 24] := ⟨_, rfl⟩
    have KD : ∀ j : AH, ∃ l, K ++ j = h ++ l := by subst hK; intro j; exact ⟨_, List.append_assoc ..⟩
    have Kg : ∀ j : AH, (K ++ j)[h.length]? = some (.row [.int .i64 p, .int .i64 n, .sl (gl.map encG) .free] 24) := by subst hK; simp
    cases ok
    focus
      have hw0 : w.length = 0 := by rw [f2 rfl]; rfl
      rw [f4 rfl, encAc] at c9
      cases any
      all_goals
        simp (disch := omega) only [go_sem, seval, encI_len, encII_len, hw0]
        refine ACalls.det (c9 _) ?_
        simp (disch := omega) only [go_sem, seval]
        obtain ⟨okv, hokv⟩ : ∃ b, b = false := ⟨_, rfl⟩
    rotate_left 2
    focus
      obtain rfl := f1 rfl
      obtain rfl := f3 rfl
      simp (disch := omega) only [go_sem, seval, encI_len, encII_len, List.length_nil]
      obtain ⟨okv, hokv⟩ : ∃ b, b = true := ⟨_, rfl⟩
    all_goals
      refine ACalls.det (c2 _) ?_
      simp (disch := omega) only [go_sem, seval, encI_len]
      rw [← hK]
      refine awp_loopL (β := TwS) P [1, 2, 4, 9, 10, 19, 20, 21, 119, 120, 121] (fun don s1 => [(1, .int .i64 most), (2, .int .u8 m), (4, .ptr (some (h.length, 0))), (9, .sl (encI w) .free), (10, .bool okv), (19, .sl (encI P) .free), (20, .sl (encI s1.l) s1.own), (21, .sl (encI s1.l2) s1.own2), (119, .sl (encI P) .free), (120, .int .i64 P.length), (121, .int .i64 don.length)])
        (fun s1 => K ++ s1.j) (fun don rest s1 => OwnAt K s1.j s1.l.length s1.own ∧ OwnAt K s1.j s1.l2.length s1.own2 ∧ DisO s1.own s1.own2 ∧ s1.l.length ≤ don.length ∧ s1.l2.length ≤ don.length ∧ listF P m = s1.l ++ listF rest (m / 2 ^ don.length) ∧ listN P m = s1.l2 ++ listN rest (m / 2 ^ don.length)) ⟨[], .full, [], .full, []⟩ ?_ (by simp) ⟨trivial, trivial, trivial, by simp, by simp, by simp, by simp⟩ Ty.mixed (by kernel_rfl) ?_ ?_
      focus
        rw [hokv]
        simp (disch := omega) only [go_sem, seval]
        rfl
      focus
        rintro don x r ⟨l, own, l2, own2, j⟩ hd ⟨ho, ho2, hdo, hll, hll2, hx, hx2⟩
        simp only at ho ho2 hdo hll hll2 hx hx2 ⊢
        have hlen : P.length = don.length + 1 + r.length := by rw [hd]; simp; omega
        have e1 : (encI P)[don.length]? = some (.int .i64 x) := by rw [hd]; simp [encI]
        have hmr : m / 2 ^ don.length ≤ m := Nat.div_le_self _ _
        rw [listF, Nat.div_div_eq_div_mul, ← Nat.pow_succ] at hx
        rw [listN, Nat.div_div_eq_div_mul, ← Nat.pow_succ] at hx2
        simp (disch := omega) only [go_sem, seval, encI_len]
        refine aIf.pos (by omega) ?_
        simp (disch := omega) only [go_sem, seval, encI_len, e1]
        rw [Nat.min_eq_left (by omega), fdiv_pow, and_one_8 _ (by omega)]
        refine aIf.intro (fun hbit => ?_) (fun hbit => ?_) <;> simp (disch := omega) only [go_sem, seval]
        focus
          rw [if_pos (by omega)] at hx hx2
          refine aAp_two (n2 := l2.length) (own2 := own2) (by rw [encI_len]; exact ho) ho2 hdo (rowsOK_I _) (rowsOK_I [x]) (by simp [encI_len]; omega) (by simp [encI_len]; omega) fun j' own' hq1 hq2 hq3 => ?_
          rw [encI_snoc]
          simp (disch := omega) only [go_sem, seval]
          refine roundL_next ⟨l ++ [x], own', l2, own2, j'⟩ ⟨by simpa [encI_len] using hq1, hq2, hq3, by simp; omega, by simp; omega, by rw [hx]; simp, by rw [hx2]; simp⟩ ?_ rfl
          simp (disch := omega) only [go_sem, seval, List.length_append]
        focus
          rw [if_neg (by omega)] at hx hx2
          refine aAp_two (n2 := l.length) (own2 := own) (by rw [encI_len]; exact ho2) ho hdo.symm (rowsOK_I _) (rowsOK_I [x]) (by simp [encI_len]; omega) (by simp [encI_len]; omega) fun j' own' hq1 hq2 hq3 => ?_
          rw [encI_snoc]
          simp (disch := omega) only [go_sem, seval]
          refine roundL_next ⟨l, own, l2 ++ [x], own', j'⟩ ⟨hq2, by simpa [encI_len] using hq1, hq3.symm, by simp; omega, by simp; omega, by rw [hx]; simp, by rw [hx2]; simp⟩ ?_ rfl
          simp (disch := omega) only [go_sem, seval, List.length_append]
      rintro ⟨l, own, l2, own2, j⟩ ⟨ho, ho2, hdo, hll, hll2, hx, hx2⟩
      simp only at ho ho2 hdo hll hll2 hx hx2 ⊢
      simp (disch := omega) only [go_sem, seval, encI_len]
      rw [listF, List.append_nil] at hx
      rw [listN, List.append_nil] at hx2
      subst hx hx2
      refine AWP.keep [1, 4, 9, 10, 19, 20, 21] (AWP.lzs (aCode_ok Ty.mixed _ _ _ _ (by kernel_rfl) ?_))
      simp (disch := omega) only [go_sem, seval, Kg]
      have KDj := KD j
      refine ACalls.det (c3 _) ?_
      simp (disch := omega) only [go_sem, seval, Kg]
      refine ACalls.det (c5 _) ?_
      subst hokv
      simp (disch := omega) only [go_sem, seval]
    focus
      have hwm1 := hwm rfl
      have c10 := c10 rfl
      have c11 := c11 rfl
      have c12 := c12 rfl
      rw [e10 rfl, encR] at c10
      rw [e12 rfl, encR] at c12
      have fin : ∀ (σ : Tm), True := fun _ => trivial
      cases b1 <;> cases b2
      rotate_left 2
      focus
        simp (disch := omega) only [go_sem, seval, encI_len]
        refine aIf.intro (fun hle => ?_) (fun hle => ?_) <;> simp (disch := omega) only [go_sem, seval]
        focus
          have hlw := (f5 rfl rfl (by omega)).2
          refine aIf.neg (by rw [encI_len, encI_len]; omega) ?_
        all_goals
          simp (disch := omega) only [go_sem, seval, Kg]
          refine ACalls.det (c10 _) ?_
          simp (disch := omega) only [go_sem, seval, Kg]
          refine aCallF.intro (fun _ => c11 _) ?_
          simp (disch := omega) only [go_sem, seval, Kg]
          refine aCallF.intro (fun _ => c12 _) ?_
          simp (disch := omega) only [go_sem, seval, encI_len]
          exact ⟨KDj, by rw [decide_eq_true hwm1]⟩
      all_goals
        simp (disch := omega) only [go_sem, seval, Kg]
        refine ACalls.det (c10 _) ?_
        simp (disch := omega) only [go_sem, seval, Kg]
        refine aCallF.intro (fun _ => c11 _) ?_
        simp (disch := omega) only [go_sem, seval, Kg]
        refine aCallF.intro (fun _ => c12 _) ?_
        simp (disch := omega) only [go_sem, seval, encI_len]
        exact ⟨KDj, by rw [decide_eq_true hwm1]⟩
    all_goals
      cases b1 <;> cases b2
      rotate_left 2
      focus
        simp (disch := omega) only [go_sem, seval, encI_len]
        refine aIf.intro (fun hle => ?_) (fun hle => ?_) <;> simp (disch := omega) only [go_sem, seval]
        focus
          exact absurd (f5 rfl rfl (by omega)).1 (by decide)
        exact KDj
      all_goals
        simp (disch := omega) only [go_sem, seval]
        exact KDj
end Go.Proofs.YtlgamlamolfnlaaGreat
