/- Texts joined: SucZn. No conditions. -/
import Derived.Test.YtaepdkjfaeepmaaMrDP
/- SuccessionEasier: the walk. No conditions. -/
set_option linter.unusedSimpArgs false
set_option linter.unusedVariables false
namespace Go.Proofs.Ytaepdkjfaeepmaa
open Go Go.Proofs Go.Abs

theorem loose_Nv (l : List (List Int)) : looseL (encNv l) = encNv l := looseL_maps _ (fun c => by rw [loose, loose_I]) l
theorem loose_est (hs : List Hr) (m n a : List Int) (v : List (List Int)) (o1 o2 : Abs.Own) : looseL [.agg [.sl (encHs hs) .free, .sl (encI m) .free, .sl (encI n) .free, .sl (encI a) o1, .sl (encNv v) o2]] = [encEs ⟨hs, m, n, a, v⟩] := by
  simp only [looseL, loose, loose_H, loose_I, loose_Nv]; rfl
theorem rowsOK_Nv (l : List (List Int)) : RowsOK 1 (encNv l) := fun r hr => by
  obtain ⟨x, _, rfl⟩ := List.mem_map.1 hr
  refine ⟨rfl, fun c hc => ?_⟩
  simp only [AV.cells, List.mem_cons, List.not_mem_nil, or_false] at hc
  rw [hc]; rfl
theorem encNv_take (l : List (List Int)) (i : Nat) : (encNv l).take i = encNv (l.take i) := by simp [encNv, List.map_take]
theorem encNv_drop (l : List (List Int)) (i : Nat) : (encNv l).drop i = encNv (l.drop i) := by simp [encNv, List.map_drop]
structure EzS where
  l : List Int
  own : Abs.Own
  j : AH
set_option maxHeartbeats 4000000 in
set_option maxRecDepth 100000 in
theorem sucEasier_calls (Γ : Nat → Option (List AV)) (s : Es) (a b : Int) (h : AH) (hs : EsL s) (ha : 0 ≤ a) (ha2 : a ≤ 255) (hb : 0 ≤ b) (hb2 : b ≤ 255) :
    ACalls Try.prog Γ 8 [encEs s, .int .u8 a, .int .u8 b] h fun v h' => h' = h ∧ v = .bool true := by
  have c0 := fun h => sane52_calls Γ h
  have c1 := fun h => right52_calls Γ s h hs
  have c2 := fun h => pplan_calls Γ s h hs
  refine ACalls.drop ?_
  simp only [encEs, esC, encPl] at c1 c2 ⊢
  refine acalls_of_awp (rs := [.tmp 6]) Try.func8 rfl rfl rfl rfl ?_
  refine awp_seq (aCode_ok Ty.mixed _ _ _ _ (by kernel_rfl) ?_)
  simp (disch := omega) only [go_sem, seval]
  refine awp_seq (aCode_ok Ty.mixed _ _ _ _ (by kernel_rfl) ?_)
  simp (disch := omega) only [go_sem, seval]
  refine ACalls.det (c0 _) ?_
  simp (disch := omega) only [go_sem, seval]
  refine awp_seq (aCode_ok Ty.mixed _ _ _ _ (by kernel_rfl) ?_)
  simp (disch := omega) only [go_sem, seval]
  refine ACalls.det (c1 _) ?_
  simp (disch := omega) only [go_sem, seval]
  cases hf : rightL s with
  | false => simp (disch := omega) only [go_sem, seval]
  | true =>
  obtain ⟨r1, r2, r3, r4, r5⟩ := rightL_iff.1 hf
  have hO := right_hsOK r5
  have h0 : s.heirs.length ≠ 0 := by
    have := (check0 r5).2.2
    simp only [rightE, Bool.and_eq_true, decide_eq_true_eq] at this
    exact this.1.1.1.1.1.1
  simp (disch := omega) only [go_sem, seval]
  refine awp_seq (aCode_ok Ty.mixed _ _ _ _ (by kernel_rfl) ?_)
  simp (disch := omega) only [go_sem, seval]
  refine ACalls.det (c2 _) ?_
  simp (disch := omega) only [go_sem, seval]
  have he : (planF s).e = 0 := by
    unfold planF
    rw [if_neg (fun e => e r5)]
    split <;> rfl
  rw [he]
  refine awp_seq (aCode_ok Ty.mixed _ _ _ _ (by kernel_rfl) ?_)
  simp (disch := omega) only [go_sem, seval]
  refine awp_seq (aCode_ok Ty.mixed _ _ _ _ (by kernel_rfl) ?_)
  simp (disch := omega) only [go_sem, seval]
  refine awp_seq (aCode_ok Ty.mixed _ _ _ _ (by kernel_rfl) ?_)
  simp (disch := omega) only [go_sem, seval]
  refine awp_seq (aCode_ok Ty.mixed _ _ _ _ (by kernel_rfl) ?_)
  simp (disch := omega) only [go_sem, seval, encHs_len]
  obtain ⟨n, hn⟩ : ∃ n, n = s.heirs.length := ⟨_, rfl⟩
  have hm0 : 0 ≤ a.tmod (s.heirs.length : Int) := Int.tmod_nonneg _ ha
  have hm1 : a.tmod (s.heirs.length : Int) < s.heirs.length := Int.tmod_lt_of_pos _ (by omega)
  refine ⟨by omega, hm0, ?_⟩
  have eg := hrAt_get (s := s) (i := (a.tmod (s.heirs.length : Int)).toNat) (by omega)
  obtain ⟨more, hmo⟩ : ∃ more, more = (hrAt s (a.tmod (s.heirs.length : Int)).toNat).person := ⟨_, rfl⟩
  simp only [encH] at eg
  rw [eg, ← hmo]
  simp (disch := omega) only [go_sem, seval]
  refine awp_seq (aCode_ok Ty.mixed _ _ _ _ (by kernel_rfl) ?_)
  simp (disch := omega) only [go_sem, seval, encHs_len]
  have gr : ∀ {j : AH} {i : Nat} {ob : AObj}, j[i]? = some ob → (h ++ j)[h.length + i]? = some ob := fun {j i ob} e => by rw [hget_add]; exact e
  have e0 : ∀ (l : List Int) (own : Abs.Own), esC s = [.sl (encHs s.heirs) .free, .sl (encI s.members) .free, .sl (encI s.needs) .free, .sl (encI s.alive) .free, .sl (encNv s.never) .free] := fun _ _ => rfl
  refine awp_loopL (β := EzS) s.heirs [2, 3, 8, 9, 11, 12, 52, 53, 54] (fun don _ => [(2, .int .u8 b), (3, .ptr (some (h.length, 0))), (8, .int .i64 (planF s).c), (9, .bool (planF s).ok), (11, .ptr (some (h.length + 1, 0))), (12, .int .i64 more), (52, .sl (encHs s.heirs) .free), (53, .int .i64 s.heirs.length), (54, .int .i64 don.length)]) (fun w => h ++ w.j)
    (fun don _ w => w.j[0]? = some (.row (esC s) 26) ∧ w.j[1]? = some (.row [.sl (encHs s.heirs) .free, .sl (encI s.members) .free, .sl (encI s.needs) .free, .sl (encI w.l) w.own, .sl (encNv s.never) .free] 26) ∧ OwnAt h w.j w.l.length w.own ∧ w.l = easyAl don s.alive more) ⟨[], .full, [.row (esC s) 26, .row [.sl (encHs s.heirs) .free, .sl (encI s.members) .free, .sl (encI s.needs) .free, .sl [] .full, .sl (encNv s.never) .free] 26]⟩ ?_ rfl ⟨rfl, rfl, trivial, rfl⟩ Ty.mixed (by kernel_rfl) ?_ ?_
  · simp (disch := omega) only [go_sem, seval, List.length_nil]
  · rintro don x r ⟨l, own, j⟩ hd ⟨j0, j1, ho, hl⟩
    simp only at j0 j1 ho hl ⊢
    have hlen : s.heirs.length = don.length + 1 + r.length := by rw [hd]; simp; omega
    have e1 : (encHs s.heirs)[don.length]? = some (encH x) := by rw [hd]; exact encHs_get don r x
    simp only [encH] at e1
    simp (disch := omega) only [go_sem, seval]
    refine aIf.pos (by omega) ?_
    have j1l : 1 < j.length := (List.getElem?_eq_some_iff.1 j1).1
    have f : ∀ {i ob}, j[i]? = some ob → ∀ X, (j ++ X)[i]? = some ob := fun {i ob} e X => by rw [List.getElem?_append_left (List.getElem?_eq_some_iff.1 e).1]; exact e
    have q0 := f j0
    simp only [esC] at q0
    simp (disch := omega) only [go_sem, seval, e1, List.length_append, q0, encI_len]
    obtain ⟨j2, hj2⟩ : ∃ j2, j2 = j ++ [AObj.row [.int .i64 x.person, .int .i64 x.join, .int .i64 x.leave] 50] := ⟨_, rfl⟩
    rw [← hj2]
    have p0 : j2[0]? = _ := hj2 ▸ f j0 _
    have p1 : j2[1]? = _ := hj2 ▸ f j1 _
    have px : j2[j.length]? = some (.row [.int .i64 x.person, .int .i64 x.join, .int .i64 x.leave] 50) := by rw [hj2]; simp
    have ho2 : OwnAt h j2 l.length own := hj2 ▸ ho.app _
    refine awp_loopL (β := Unit) s.alive [2, 3, 8, 9, 11, 12, 14, 15, 52, 53, 54, 63, 64, 65] (fun don2 _ => [(2, .int .u8 b), (3, .ptr (some (h.length, 0))), (8, .int .i64 (planF s).c), (9, .bool (planF s).ok), (11, .ptr (some (h.length + 1, 0))), (12, .int .i64 more), (14, .ptr (some (h.length + j.length, 0))), (15, .bool (easyB don2 more x)), (52, .sl (encHs s.heirs) .free), (53, .int .i64 s.heirs.length), (54, .int .i64 don.length), (63, .sl (encI s.alive) .free), (64, .int .i64 s.alive.length), (65, .int .i64 don2.length)]) (fun _ => h ++ j2)
      (fun _ _ _ => True) () ?_ rfl trivial Ty.mixed (by kernel_rfl) ?_ ?_
    · have hs0 : easyB [] more x = decide (x.person = more) := by simp [easyB]
      rw [hs0]
      simp (disch := omega) only [go_sem, seval, List.length_nil, px]
    · rintro don2 p r2 _ hd2 -
      have hlen2 : s.alive.length = don2.length + 1 + r2.length := by rw [hd2]; simp; omega
      have e2 : (encI s.alive)[don2.length]? = some (.int .i64 p) := by rw [hd2]; exact encI_at don2 r2 p
      have hs1 : easyB (don2 ++ [p]) more x = (easyB don2 more x || decide (p = x.person)) := by simp [easyB, Bool.or_assoc]
      simp (disch := omega) only [go_sem, seval]
      refine aIf.pos (by omega) ?_
      simp (disch := omega) only [go_sem, seval, e2]
      cases hb1 : easyB don2 more x <;> rw [hb1] at hs1 <;> simp (disch := omega) only [go_sem, seval, px]
      · rw [Bool.false_or] at hs1
        refine roundL_next () trivial ?_ rfl
        rw [hs1]
        simp (disch := omega) only [go_sem, seval, List.length_append]
      · rw [Bool.true_or] at hs1
        refine roundL_next () trivial ?_ rfl
        rw [hs1]
        simp (disch := omega) only [go_sem, seval, List.length_append]
    · rintro _ -
      simp (disch := omega) only [go_sem, seval]
      refine AWP.keep [2, 3, 8, 9, 11, 12, 14, 15, 52, 53, 54] (aCode_ok Ty.mixed _ _ _ _ (by kernel_rfl) ?_)
      have hsn : easyAl (don ++ [x]) s.alive more = easyAl don s.alive more ++ (if easyB s.alive more x = true then [x.person] else []) := by
        simp only [easyAl, List.filter_append, List.map_append]
        congr 1
        cases hb : easyB s.alive more x <;> simp [List.filter, hb]
      have hl6 : l.length ≤ 6 := by have := easyAl_len don s.alive more; rw [hl]; omega
      simp (disch := omega) only [go_sem, seval]
      cases hb : easyB s.alive more x with
      | false =>
        rw [hb, if_neg (by simp), List.append_nil] at hsn
        simp (disch := omega) only [go_sem, seval]
        refine AWP.keep [2, 3, 8, 9, 11, 12, 52, 53, 54] (aCode_ok Ty.mixed _ _ _ _ (by kernel_rfl) ?_)
        simp (disch := omega) only [go_sem, seval]
        refine roundL_next (⟨l, own, j2⟩ : EzS) ⟨p0, p1, ho2, by rw [hsn]; exact hl⟩ ?_ rfl
        simp (disch := omega) only [go_sem, seval, List.length_append]
      | true =>
        rw [hb, if_pos rfl] at hsn
        simp (disch := omega) only [go_sem, seval, p1, px]
        refine aAp_sl (by rw [encI_len]; exact ho2) (rowsOK_I _) (rowsOK_I [x.person]) (by rw [encI_len]; simp; omega) (by rw [encI_len]; simp; omega) fun j' own' ho' hg => ?_
        have z0 := hg.2 _ _ p0 (by simp)
        have z1 := hg.2 _ _ p1 (by simp)
        simp (disch := omega) only [go_sem, seval, z1]
        refine AWP.keep [2, 3, 8, 9, 11, 12, 52, 53, 54] (aCode_ok Ty.mixed _ _ _ _ (by kernel_rfl) ?_)
        simp (disch := omega) only [go_sem, seval]
        have hi : encI l ++ [AV.int .i64 x.person] = encI (l ++ [x.person]) := by simp [encI]
        have jl : 1 < j'.length := (List.getElem?_eq_some_iff.1 z1).1
        rw [hi]
        refine roundL_next (⟨l ++ [x.person], own', j'.set 1 _⟩ : EzS) ⟨by simp only; rw [List.getElem?_set_ne (by decide)]; exact z0, by simp only; rw [List.getElem?_set_self jl], ?_, by rw [hsn, ← hl]⟩ ?_ rfl
        · have := OwnAt.set ho' z1 (by simp) (.row [.sl (encHs s.heirs) .free, .sl (encI s.members) .free, .sl (encI s.needs) .free, .sl (encI (l ++ [x.person])) own', .sl (encNv s.never) .free] 26)
          simpa [encI_len] using this
        · simp (disch := omega) only [go_sem, seval, List.length_append]
  · rintro ⟨l, own, j⟩ ⟨j0, j1, ho, hl⟩
    simp only at j0 j1 ho hl ⊢
    have hE : ∀ nv : List (List Int), (∀ c ∈ nv, c ∈ s.never) → nv.length ≤ s.never.length → EsL (easyE s more nv) := fun nv h1 h2 => ⟨hs.h, hs.m, hs.n, by have := easyAl_len s.heirs s.alive more; simp only [easyE]; omega, by simp only [easyE]; omega, fun c hc => hs.c c (h1 c hc)⟩
    have c3 := fun (nv : List (List Int)) (h1 : ∀ c ∈ nv, c ∈ s.never) (h2 : nv.length ≤ s.never.length) h => pplan_calls Γ (easyE s more nv) h (hE nv h1 h2)
    have hpe := fun (nv : List (List Int)) (h1 : ∀ c ∈ nv, c ∈ s.never) (h2 : nv.length ≤ s.never.length) => plan_easier hs r5 (more := more) h1 h2 (hE nv h1 h2)
    simp only [easyE, ← hl, encPl] at c3 hpe
    simp (disch := omega) only [go_sem, seval]
    refine AWP.keep [2, 3, 8, 9, 11] (aCode_ok Ty.mixed _ _ _ _ (by kernel_rfl) ?_)
    have q0 := j0
    simp only [esC] at q0
    simp (disch := omega) only [go_sem, seval, q0, encNv_len]
    refine aIf.intro (fun h1 => ?_) (fun h1 => ?_) <;> simp (disch := omega) only [go_sem, seval, q0, j1, encNv_len]
    · have hb0 : 0 ≤ b.tmod (s.never.length : Int) := Int.tmod_nonneg _ hb
      have hb1 : b.tmod (s.never.length : Int) < s.never.length := Int.tmod_lt_of_pos _ (by omega)
      obtain ⟨i, hi⟩ : ∃ i : Nat, b.tmod (s.never.length : Int) = i := ⟨(b.tmod (s.never.length : Int)).toNat, by omega⟩
      rw [hi] at hb1 ⊢
      refine ⟨by omega, rowsOK_Nv _, by omega, by omega, ?_⟩
      rw [Int.toNat_natCast, encNv_take]
      refine aAp_sl (own := .full) trivial (fun r hr => by cases hr) (rowsOK_Nv _) (by rw [encNv_len, List.length_take]; simp; omega) (by rw [encNv_len, List.length_take]; simp; omega) fun j' own' ho' hg => ?_
      have z0 := hg.2 _ _ j0 (by simp)
      have z1 := hg.2 _ _ j1 (by simp)
      simp only [esC] at z0
      simp (disch := omega) only [go_sem, seval, z0, z1, encNv_len]
      refine ⟨rowsOK_Nv _, by omega, by omega, ?_⟩
      rw [show ((i : Int) + 1).toNat = i + 1 by omega, encNv_drop]
      have hnv : encNv (s.never.take i) ++ encNv (s.never.drop (i + 1)) = encNv (s.never.take i ++ s.never.drop (i + 1)) := by simp [encNv]
      have hn1 : ∀ c ∈ s.never.take i ++ s.never.drop (i + 1), c ∈ s.never := fun c hc => by
        rcases List.mem_append.1 hc with hc | hc
        · exact List.mem_of_mem_take hc
        · exact List.mem_of_mem_drop hc
      have hn2 : (s.never.take i ++ s.never.drop (i + 1)).length ≤ s.never.length := by simp; omega
      refine aAp_sl (by simpa [encNv_len] using ho') (rowsOK_Nv _) (rowsOK_Nv _) (by rw [encNv_len, encNv_len, List.length_take, List.length_drop]; omega) (by rw [encNv_len, encNv_len, List.length_take, List.length_drop]; omega) fun j9 own9 ho9 hg9 => ?_
      have y1 := hg9.2 _ _ z1 (by simp)
      have jl : 1 < j9.length := (List.getElem?_eq_some_iff.1 y1).1
      have y2 : ∀ o, (j9.set 1 o)[1]? = some o := fun o => List.getElem?_set_self jl
      rw [hnv]
      simp (disch := omega) only [go_sem, seval, y1, y2]
      refine ACalls.det ((c3 _ hn1 hn2 _).ofLoose (loose_est _ _ _ _ _ _ _)) ?_
      simp (disch := omega) only [go_sem, seval]
      obtain ⟨k1, k2⟩ := hpe _ hn1 hn2
      refine aIf.pos k1 ?_
      simp (disch := omega) only [go_sem, seval]
      cases hok : (planF s).ok with
      | false => simp (disch := omega) only [go_sem, seval]
      | true =>
        obtain ⟨k3, k4⟩ := k2 hok
        simp (disch := omega) only [go_sem, seval]
        rw [k3]
        simp (disch := omega) only [go_sem, seval]
        rw [decide_eq_true k4]
    · refine ACalls.det ((c3 s.never (fun _ h => h) (Nat.le_refl _) _).ofLoose (loose_est _ _ _ _ _ _ _)) ?_
      simp (disch := omega) only [go_sem, seval]
      obtain ⟨k1, k2⟩ := hpe s.never (fun _ h => h) (Nat.le_refl _)
      refine aIf.pos k1 ?_
      simp (disch := omega) only [go_sem, seval]
      cases hok : (planF s).ok with
      | false => simp (disch := omega) only [go_sem, seval]
      | true =>
        obtain ⟨k3, k4⟩ := k2 hok
        simp (disch := omega) only [go_sem, seval]
        rw [k3]
        simp (disch := omega) only [go_sem, seval]
        rw [decide_eq_true k4]
end Go.Proofs.Ytaepdkjfaeepmaa
