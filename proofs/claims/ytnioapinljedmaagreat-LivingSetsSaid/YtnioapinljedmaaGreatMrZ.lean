/- Texts joined: SetP, SetQ. No conditions. -/
import Derived.Test.YtnioapinljedmaaGreatMrO
import Derived.Test.YtnioapinljedmaaGreatMrR
import Derived.Test.YtnioapinljedmaaGreatMrM
/- Smallest sets among who is alive, in plain lists. No conditions. -/
set_option linter.unusedSimpArgs false
set_option linter.unusedVariables false
namespace Go.Proofs.YtnioapinljedmaaGreat
open Go Go.Proofs Go.Abs

/-- The first of the smallest sets that is a part of some people is what is found first among these people's sets. -/
theorem first_mins {P U : List Int} {fine : List Int → Bool} (hP : P.Pairwise (· < ·)) (hU : U.Sublist P) {don r : List (List Int)} {s : List Int} (hd : minsF P fine = don ++ s :: r) (hn : ∀ t ∈ don, ¬ ∀ x ∈ t, x ∈ U) (hs : ∀ x ∈ s, x ∈ U) : (allF U).find? fine = some s := by
  have hUp := hP.sublist hU
  have hsm := (mem_mins hP s).1 (by rw [hd]; simp)
  have hsU : s.Sublist U := sub_of_asc U s (hP.sublist hsm.1) hUp hs
  cases hf : (allF U).find? fine with
  | none => have := first_none hf hsU; rw [hsm.2.1] at this; cases this
  | some w =>
    obtain ⟨w1, w2⟩ := first_some hf
    have hwm : Minl P fine w := by
      refine ⟨w1.trans hU, w2, fun t t1 t2 t3 => ?_⟩
      have htU : t.Sublist U := sub_of_asc U t (hP.sublist t1) hUp fun x hx => w1.subset (t3 x hx)
      have hl := (first_least hUp hf htU t2).1
      have htw : t.Sublist w := sub_of_asc w t (hP.sublist t1) (hUp.sublist w1) t3
      exact htw.eq_of_length (Nat.le_antisymm htw.length_le hl)
    have hwl := (mem_mins hP w).2 hwm
    rw [hd] at hwl
    rcases List.mem_append.1 hwl with h | h
    · exact absurd w1.subset (hn w h)
    rcases List.mem_cons.1 h with h | h
    · rw [h]
    · have hpw := mins_pw fine hP
      rw [hd, List.pairwise_append, List.pairwise_cons] at hpw
      have hb := hpw.2.1.1 w h
      obtain ⟨k1, k2⟩ := first_least hUp hf hsU hsm.2.1
      rw [beforeF] at hb
      split at hb
      · rename_i e; rw [k2 e.symm] at hb; cases hb
      · simp at hb; omega
theorem liv_first {g : Gt} {al : List Int} (he : err51F g al = 0) {don r : List (List Int)} {s : List Int} (hd : setsF g = don ++ s :: r) (hn : ∀ t ∈ don, ¬ ∀ x ∈ t, x ∈ al) (hs : ∀ x ∈ s, x ∈ al) : livR g al = (s, true, 0) := by
  have h := err_ok he
  have hP := ppl_lt h.c
  have hsm := (mem_mins hP s).1 (show s ∈ minsF (pplF g) (holdP g) by rw [← setsF, hd]; simp)
  have := first_mins (U := bothF (pplF g) al) hP List.filter_sublist hd (fun t ht k => hn t ht fun x hx => ((mem_both x _ _).1 (k x hx)).2) (fun x hx => (mem_both x _ _).2 ⟨hsm.1.subset hx, hs x hx⟩)
  rw [livR, if_pos he, firstF, show permF g = holdP g from rfl, this]
theorem dea_first {g : Gt} {al : List Int} (he : err51F g al = 0) {don r : List (List Int)} {s : List Int} (hd : blksF g = don ++ s :: r) (hn : ∀ t ∈ don, bothF t al ≠ []) (hs : bothF s al = []) : deaR g al = (s, true, 0) := by
  have h := err_ok he
  have hP := ppl_lt h.c
  have hsm := (mem_mins hP s).1 (show s ∈ minsF (pplF g) (blkP g) by rw [← blksF, hd]; simp)
  have hsa : ∀ x ∈ s, x ∉ al := fun x hx hxa => by
    have : x ∈ bothF s al := (mem_both x _ _).2 ⟨hx, hxa⟩
    rw [hs] at this; simp at this
  have hp : permF g al = false := by
    cases hk : permF g al with
    | false => rfl
    | true =>
      have h2 := hsm.2.1
      rw [blkP, perm_sub h.c h.a (asc_wt s h.p) (fun x hx hxa => (mem_wt x _ _).2 ⟨hx, fun hxs => hsa x hxs hxa⟩) hk] at h2
      cases h2
  have := first_mins (U := wtF (pplF g) al) hP List.filter_sublist hd (fun t ht k => hn t ht (by
    rw [List.eq_nil_iff_forall_not_mem]
    intro x hx
    obtain ⟨k1, k2⟩ := (mem_both x _ _).1 hx
    exact ((mem_wt x _ _).1 (k x k1)).2 k2)) (fun x hx => (mem_wt x _ _).2 ⟨hsm.1.subset hx, hsa x hx⟩)
  rw [deaR, if_pos he, hp, if_neg (by decide), firstF, show (fun s => !permF g (wtF (pplF g) s)) = blkP g from rfl, this]
/-- What the margin leaves of the smallest blocking sets. -/
theorem mar_blks {g : Gt} {al : List Int} (he : err51F g al = 0) (hp : permF g al = true) :
    ∃ w, marR g al = (w, true, 0) ∧ (∀ s ∈ blksF g, w.length ≤ (bothF s al).length) ∧ ∃ s ∈ blksF g, bothF s al = w := by
  have h := err_ok he
  have hP := ppl_lt h.c
  obtain ⟨w, h1, hf⟩ := mar_find he hp
  obtain ⟨w1, w2⟩ := first_some hf
  have hV : (bothF (pplF g) al).Pairwise (· < ·) := asc_pw (asc_both h)
  have hle : ∀ s ∈ blksF g, w.length ≤ (bothF s al).length := fun s hs => by
    have hsm := (mem_mins hP s).1 hs
    have hsV : (bothF s al).Sublist (bothF (pplF g) al) := sub_of_asc _ _ ((hP.sublist hsm.1).sublist List.filter_sublist) hV fun x hx => by
      obtain ⟨k1, k2⟩ := (mem_both x _ _).1 hx
      exact (mem_both x _ _).2 ⟨hsm.1.subset k1, k2⟩
    refine (first_least hV hf hsV ?_).1
    cases hk : permF g (wtF (bothF (pplF g) al) (bothF s al)) with
    | false => rfl
    | true =>
      have h2 := hsm.2.1
      rw [blkP, perm_sub h.c (asc_wt _ (asc_both h)) (asc_wt s h.p) (fun x hx hxa => ?_) hk] at h2
      · cases h2
      · obtain ⟨k1, k2⟩ := (mem_wt x _ _).1 hxa
        refine (mem_wt x _ _).2 ⟨hx, fun hxs => k2 ((mem_both x _ _).2 ⟨hxs, ((mem_both x _ _).1 k1).2⟩)⟩
  refine ⟨w, h1, hle, ?_⟩
  have hT : blkP g (wtF (pplF g) (wtF (bothF (pplF g) al) w)) = true := by
    have hVs : (wtF (bothF (pplF g) al) w).Sublist (pplF g) := (wt_sub _ _).trans List.filter_sublist
    rw [blkP, wt_wt' hP hVs]; simpa using w2
  obtain ⟨s, s1, s2⟩ := minl_exists hP (wt_sub (pplF g) _) hT
  have hsm := (mem_mins hP s).2 s1
  refine ⟨s, hsm, ?_⟩
  have hsw : (bothF s al).Sublist w := by
    refine sub_of_asc w _ ((hP.sublist s1.1).sublist List.filter_sublist) (hV.sublist w1) fun x hx => ?_
    obtain ⟨k1, k2⟩ := (mem_both x _ _).1 hx
    have := (mem_wt x _ _).1 (s2 x k1)
    refine Classical.byContradiction fun hxw => this.2 ((mem_wt x _ _).2 ⟨(mem_both x _ _).2 ⟨this.1, k2⟩, hxw⟩)
  exact hsw.eq_of_length (Nat.le_antisymm hsw.length_le (hle s hsm))
end Go.Proofs.YtnioapinljedmaaGreat

/- The law LivingSets: the code. No conditions. -/
set_option linter.unusedSimpArgs false
set_option linter.unusedVariables false
namespace Go.Proofs.YtnioapinljedmaaGreat
open Go Go.Proofs Go.Abs

/-! ### A loop left in several ways, gathered -/
def gathQ (id : Nat) (kp : List Nat) (σ1 : Tm) (h1 : AH) (Q : Exit → Tm → AH → Prop) : Exit → Tm → AH → Prop
  | .exit i, σ, h => if i = id then keep kp σ = σ1 ∧ h = h1 else Q (.exit i) σ h
  | .normal, _, _ => False
  | .goto l, σ, h => Q (.goto l) σ h
  | .ret, σ, h => Q .ret σ h
  | .panic c, σ, h => Q (.panic c) σ h
  | .outgrown, σ, h => Q .outgrown σ h
@[go_sem] theorem gathQ_exit (id : Nat) (kp : List Nat) (σ1 σ : Tm) (h1 h : AH) (Q : Exit → Tm → AH → Prop) : gathQ id kp σ1 h1 Q (.exit id) σ h = (keep kp σ = σ1 ∧ h = h1) := by simp [gathQ]
@[go_sem] theorem gathQ_ret (id : Nat) (kp : List Nat) (σ1 σ : Tm) (h1 h : AH) (Q : Exit → Tm → AH → Prop) : gathQ id kp σ1 h1 Q .ret σ h = Q .ret σ h := (rfl)
theorem awp_gath {P : Program} {Γ : Nat → Option (List AV)} {N : Nat} {c : Code} {id : Nat} {Q : Exit → Tm → AH → Prop} {σ : Tm} {h : AH} (kp : List Nat) (σ1 : Tm) (h1 : AH) (H : AWP P Γ N c (gathQ id kp σ1 h1 Q) σ h) (T : ∀ σ2, keep kp σ2 = σ1 → Q .normal σ2 h1) : AWP P Γ N c (blockA id Q) σ h :=
  H.mono fun e σ h he => by
    cases e with
    | exit i =>
      simp only [gathQ] at he
      simp only [blockA]
      split at he
      · rename_i hi; rw [if_pos hi]; obtain ⟨k1, rfl⟩ := he; exact T _ k1
      · rename_i hi; rw [if_neg hi]; exact he
    | normal => exact he.elim
    | _ => exact he
set_option maxRecDepth 100000 in
theorem livSets_calls (Γ : Nat → Option (List AV)) (g : Gt) (al : List Int) (h : AH) (hs : Sh g) (hal : al.length ≤ 9223372036854775807) :
    ACalls Tryz.prog Γ 3 [encG g, .sl (encI al) .free] h fun v h' => h' = h ∧ v = .bool true := by
  have hG : ∃ p n gl, g = .mk p n gl := by cases g with | mk p n gl => exact ⟨p, n, gl, rfl⟩
  obtain ⟨p, n, gl, hG⟩ := hG
  have eG : encG g = .agg [.int .i64 p, .int .i64 n, .sl (gl.map encG) .free] := by rw [hG, encG_mk]
  have c1 := fun h => few51_calls Γ g al h hs hal
  rw [eG] at c1 ⊢
  refine ACalls.drop ?_
  refine acalls_code (rs := [.tmp 4]) Tryz.func3 rfl rfl rfl rfl Ty.mixed (by kernel_rfl) ?_
  simp (disch := omega) only [go_sem, seval]
  refine ACalls.det (sane_calls Γ _) ?_
  simp (disch := omega) only [go_sem, seval]
  refine ACalls.det (c1 _) ?_
  simp (disch := omega) only [go_sem, seval]
  cases hf : (few24F g && decide (al.length ≤ 80)) with
  | false => simp (disch := omega) only [go_sem, seval]
  | true =>
  simp only [Bool.and_eq_true, decide_eq_true_eq] at hf
  obtain ⟨_, hal2⟩ := hf
  have c2 := fun h => err51_calls Γ g al h hs (by omega)
  have c3 := fun h => psets_calls Γ g h hs
  have c4 := fun h => pblks_calls Γ g h hs
  have c5 := fun h => living_calls Γ g al h hs (by omega)
  have c6 := fun h => dead_calls Γ g al h hs (by omega)
  have c7 := fun h => margin_calls Γ g al h hs (by omega)
  rw [liv_eq, encW] at c5
  rw [dea_eq, encW] at c6
  rw [mar_eq, encW] at c7
  rw [encS] at c3 c4
  rw [eG] at c2 c3 c4 c5 c6 c7
  simp (disch := omega) only [go_sem, seval]
  refine ACalls.det (c2 _) ?_
  simp (disch := omega) only [go_sem, seval]
  refine aIf.intro (fun he => ?_) (fun he => ?_)
  rotate_left
  · simp (disch := omega) only [go_sem, seval]
  simp (disch := omega) only [go_sem, seval]
  have he0 : errF g = 0 := (err51_facts he).1
  have hok := err_ok he
  have hP := ppl_lt hok.c
  have hpn := hok.n
  have e3 : smallR g false = (if 256 < (setsF g).length then ([], 2) else (setsF g, 0)) := by rw [smallR, if_pos he0]; rfl
  have e4 : smallR g true = (if 256 < (blksF g).length then ([], 2) else (blksF g, 0)) := by rw [smallR, if_pos he0]; rfl
  have l5 : (livR g al).2.2 = 0 ∧ (deaR g al).2.2 = 0 ∧ (marR g al).2.2 = 0 := by
    cases hp : permF g al with
    | true =>
      obtain ⟨s, k1, k2, _⟩ := ord_true he hp
      obtain ⟨w, k3, _⟩ := mar_blks he hp
      rw [k1, k2, k3]; exact ⟨rfl, rfl, rfl⟩
    | false =>
      obtain ⟨s, k1, k2, _⟩ := ord_false he hp
      rw [k1, k2, mar_false he hp]; exact ⟨rfl, rfl, rfl⟩
  rw [e3] at c3
  rw [e4] at c4
  rw [l5.1] at c5
  rw [l5.2.1] at c6
  rw [l5.2.2] at c7
  have base : (setsF g).length ≤ 256 → (blksF g).length ≤ 256 → (256 < (setsF g).length) = False ∧ (256 < (blksF g).length) = False := fun a b => ⟨eq_false (by omega), eq_false (by omega)⟩
  by_cases h1 : 256 < (setsF g).length
  · rw [if_pos h1] at c3
    split at c4
    all_goals
      refine ACalls.det (c3 _) ?_
      simp (disch := omega) only [go_sem, seval]
      refine ACalls.det (c4 _) ?_
      simp (disch := omega) only [go_sem, seval]
      refine ACalls.det (c5 _) ?_
      simp (disch := omega) only [go_sem, seval]
      refine ACalls.det (c6 _) ?_
      simp (disch := omega) only [go_sem, seval]
      refine ACalls.det (c7 _) ?_
      simp (disch := omega) only [go_sem, seval]
  by_cases h2 : 256 < (blksF g).length
  · rw [if_neg h1] at c3
    rw [if_pos h2] at c4
    refine ACalls.det (c3 _) ?_
    simp (disch := omega) only [go_sem, seval]
    refine ACalls.det (c4 _) ?_
    simp (disch := omega) only [go_sem, seval]
    refine ACalls.det (c5 _) ?_
    simp (disch := omega) only [go_sem, seval]
    refine ACalls.det (c6 _) ?_
    simp (disch := omega) only [go_sem, seval]
    refine ACalls.det (c7 _) ?_
    simp (disch := omega) only [go_sem, seval]
  rw [if_neg h1] at c3
  rw [if_neg h2] at c4
  have hsin : ∀ s ∈ setsF g, s.length ≤ 12 := fun s hs => by have := ((mem_mins hP s).1 hs).1.length_le; omega
  have hbin : ∀ s ∈ blksF g, s.length ≤ 12 := fun s hs => by have := ((mem_mins hP s).1 hs).1.length_le; omega
  have f1 := fun don r s (hd : setsF g = don ++ s :: r) => liv_first (al := al) he hd
  have f2 := fun don r s (hd : blksF g = don ++ s :: r) => dea_first (al := al) he hd
  have lw := livR_len g al
  have lb := deaR_len g al
  have lm := marR_len g al
  have f3 : (marR g al).2.1 = true → (∀ s ∈ blksF g, (marR g al).1.length ≤ (bothF s al).length) ∧ ∃ s ∈ blksF g, bothF s al = (marR g al).1 := fun hm => by
    have hp : permF g al = true := by
      cases hp : permF g al with
      | true => rfl
      | false => rw [mar_false he hp] at hm; cases hm
    obtain ⟨w, k1, k2, k3⟩ := mar_blks he hp
    rw [k1]; exact ⟨k2, k3⟩
  generalize livR g al = L at *
  generalize deaR g al = D at *
  generalize marR g al = M at *
  generalize setsF g = S at *
  generalize blksF g = B at *
  refine ACalls.det (c3 _) ?_
  simp (disch := omega) only [go_sem, seval]
  refine ACalls.det (c4 _) ?_
  simp (disch := omega) only [go_sem, seval]
  refine ACalls.det (c5 _) ?_
  simp (disch := omega) only [go_sem, seval]
  refine ACalls.det (c6 _) ?_
  simp (disch := omega) only [go_sem, seval]
  refine ACalls.det (c7 _) ?_
  simp (disch := omega) only [go_sem, seval, encII_len]
  obtain ⟨H, hH⟩ : ∃ H : AH, H = h ++ [.row [.int .i64 p, .int .i64 n, .sl (gl.map encG) .free] 24] := ⟨_, rfl⟩
  have HD : ∃ l, H = h ++ l := ⟨_, hH⟩
  rw [← hH]
  refine awp_gath [1, 7, 12, 13, 15, 16] [(1, .sl (encI al) .free), (7, .sl (encII B) .free), (12, .sl (encI D.1) .free), (13, .bool D.2.1), (15, .sl (encI M.1) .free), (16, .bool M.2.1)] H ?_ fun σ2 hσ => ?_
  · refine awp_loopL (β := Unit) S [1, 7, 9, 10, 12, 13, 15, 16, 91, 92, 93] (fun don _ => [(1, .sl (encI al) .free), (7, .sl (encII B) .free), (9, .sl (encI L.1) .free), (10, .bool L.2.1), (12, .sl (encI D.1) .free), (13, .bool D.2.1), (15, .sl (encI M.1) .free), (16, .bool M.2.1), (91, .sl (encII S) .free), (92, .int .i64 S.length), (93, .int .i64 don.length)]) (fun _ => H) (fun don _ _ => ∀ t ∈ don, ¬ ∀ x ∈ t, x ∈ al) () ?_ rfl (by simp) Ty.mixed (by kernel_rfl) ?_ ?_
    · simp (disch := omega) only [go_sem, seval]
    · rintro don s r _ hd hn
      have hlen : S.length = don.length + (r.length + 1) := by rw [hd]; simp
      have e1 : (encII S)[don.length]? = some (.sl (encI s) .free) := by rw [hd]; exact encII_get don r s
      have hsl := hsin s (by rw [hd]; simp)
      have k1 := fun h => inside_calls Γ s al h (by omega) (by omega)
      have k2 := f1 don r s hd hn
      simp (disch := omega) only [go_sem, seval]
      refine aIf.pos (by omega) ?_
      simp (disch := omega) only [go_sem, seval, e1]
      refine ACalls.det (k1 _) ?_
      simp (disch := omega) only [go_sem, seval]
      refine aIf.intro (fun hin => ?_) (fun hin => ?_)
      · have hL := k2 hin
        have k3 := fun h => sameI_calls Γ s L.1 h (by omega)
        rw [hL] at k3 ⊢
        simp only at k3 ⊢
        simp (disch := omega) only [go_sem, seval]
        refine ACalls.det (k3 _) ?_
        simp (disch := omega) only [go_sem, seval]
      · simp (disch := omega) only [go_sem, seval]
        refine roundL_next () ?_ ?_ rfl
        · intro t ht
          rcases List.mem_append.1 ht with ht | ht
          · exact hn t ht
          · rw [List.mem_singleton] at ht; subst ht; exact hin
        · simp (disch := omega) only [go_sem, seval, List.length_append]
    · intro _ _
      simp (disch := omega) only [go_sem, seval]
  simp (disch := omega) only [go_sem, seval]
  refine AWP.keep [1, 7, 12, 13, 15, 16] ?_
  rw [hσ]
  refine aCode_ok Ty.mixed _ _ _ _ (by kernel_rfl) ?_
  clear hσ σ2
  simp (disch := omega) only [go_sem, seval, encII_len]
  refine awp_gath [1, 7, 15, 16] [(1, .sl (encI al) .free), (7, .sl (encII B) .free), (15, .sl (encI M.1) .free), (16, .bool M.2.1)] H ?_ fun σ2 hσ => ?_
  · refine awp_loopL (β := Unit) B [1, 7, 12, 13, 15, 16, 109, 110, 111] (fun don _ => [(1, .sl (encI al) .free), (7, .sl (encII B) .free), (12, .sl (encI D.1) .free), (13, .bool D.2.1), (15, .sl (encI M.1) .free), (16, .bool M.2.1), (109, .sl (encII B) .free), (110, .int .i64 B.length), (111, .int .i64 don.length)]) (fun _ => H) (fun don _ _ => ∀ t ∈ don, bothF t al ≠ []) () ?_ rfl (by simp) Ty.mixed (by kernel_rfl) ?_ ?_
    · simp (disch := omega) only [go_sem, seval]
    · rintro don s r _ hd hn
      have hlen : B.length = don.length + (r.length + 1) := by rw [hd]; simp
      have e1 : (encII B)[don.length]? = some (.sl (encI s) .free) := by rw [hd]; exact encII_get don r s
      have hsl := hbin s (by rw [hd]; simp)
      have k1 := fun h => both_calls Γ s al h (by omega) (by omega)
      have k2 := f2 don r s hd hn
      simp (disch := omega) only [go_sem, seval]
      refine aIf.pos (by omega) ?_
      simp (disch := omega) only [go_sem, seval, e1]
      refine ACalls.det (k1 _) ?_
      simp (disch := omega) only [go_sem, seval, encI_len]
      refine aIf.intro (fun hin => ?_) (fun hin => ?_)
      · have hL := k2 (List.length_eq_zero_iff.1 (by omega))
        have k3 := fun h => sameI_calls Γ s D.1 h (by omega)
        rw [hL] at k3 ⊢
        simp only at k3 ⊢
        simp (disch := omega) only [go_sem, seval]
        refine ACalls.det (k3 _) ?_
        simp (disch := omega) only [go_sem, seval]
      · simp (disch := omega) only [go_sem, seval]
        refine roundL_next () ?_ ?_ rfl
        · intro t ht
          rcases List.mem_append.1 ht with ht | ht
          · exact hn t ht
          · rw [List.mem_singleton] at ht; subst ht; intro e; rw [e] at hin; simp at hin
        · simp (disch := omega) only [go_sem, seval, List.length_append]
    · intro _ _
      simp (disch := omega) only [go_sem, seval]
  simp (disch := omega) only [go_sem, seval]
  refine AWP.keep [1, 7, 15, 16] ?_
  rw [hσ]
  refine aCode_ok Ty.mixed _ _ _ _ (by kernel_rfl) ?_
  clear hσ σ2
  simp (disch := omega) only [go_sem, seval]
  cases hm : M.2.1 with
  | false => simp (disch := omega) only [go_sem, seval]; exact HD
  | true =>
  obtain ⟨g1, g2⟩ := f3 hm
  simp (disch := omega) only [go_sem, seval, encII_len]
  refine awp_loopL (β := Bool) B [1, 15, 22, 131, 132, 133] (fun don b => [(1, .sl (encI al) .free), (15, .sl (encI M.1) .free), (22, .bool b), (131, .sl (encII B) .free), (132, .int .i64 B.length), (133, .int .i64 don.length)]) (fun _ => H) (fun _ rest b => (b || rest.any fun s => decide (bothF s al = M.1)) = true) false ?_ rfl (by
    obtain ⟨s, h1, h2⟩ := g2
    rw [Bool.false_or, List.any_eq_true]
    exact ⟨s, h1, by simp [h2]⟩) Ty.mixed (by kernel_rfl) ?_ ?_
  · simp (disch := omega) only [go_sem, seval]
  · rintro don s r b hd hb
    have hlen : B.length = don.length + (r.length + 1) := by rw [hd]; simp
    have e1 : (encII B)[don.length]? = some (.sl (encI s) .free) := by rw [hd]; exact encII_get don r s
    have hsm : s ∈ B := by rw [hd]; simp
    have hsl := hbin s hsm
    have hbl := bothF_len s al
    have hml := g1 s hsm
    have k1 := fun h => both_calls Γ s al h (by omega) (by omega)
    have k2 := fun h => sameI_calls Γ (bothF s al) M.1 h (by omega)
    rw [List.any_cons] at hb
    simp (disch := omega) only [go_sem, seval]
    refine aIf.pos (by omega) ?_
    simp (disch := omega) only [go_sem, seval, e1]
    refine ACalls.det (k1 _) ?_
    simp (disch := omega) only [go_sem, seval, encI_len]
    cases b with
    | true =>
      simp (disch := omega) only [go_sem, seval, encI_len]
      refine aIf.neg (by omega) ?_
      simp (disch := omega) only [go_sem, seval]
      refine roundL_next true rfl ?_ rfl
      simp (disch := omega) only [go_sem, seval, List.length_append]
    | false =>
      simp (disch := omega) only [go_sem, seval]
      refine ACalls.det (k2 _) ?_
      simp (disch := omega) only [go_sem, seval, encI_len]
      refine aIf.neg (by omega) ?_
      simp (disch := omega) only [go_sem, seval]
      refine roundL_next (decide (bothF s al = M.1)) (by rwa [Bool.false_or] at hb) ?_ rfl
      simp (disch := omega) only [go_sem, seval, List.length_append]
  · intro b hb
    simp (disch := omega) only [go_sem, seval]
    refine AWP.keep [22] (aCode_ok Ty.mixed _ _ _ _ (by kernel_rfl) ?_)
    simp (disch := omega) only [go_sem, seval]
    rw [List.any_nil, Bool.or_false] at hb
    rw [hb]
    exact ⟨HD, rfl⟩
end Go.Proofs.YtnioapinljedmaaGreat
