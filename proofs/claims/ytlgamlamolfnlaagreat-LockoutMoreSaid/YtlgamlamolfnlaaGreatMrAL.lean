/- Texts joined: LokV. No conditions. -/
import Derived.Test.YtlgamlamolfnlaaGreatMrAK
/- The law LockoutMore: the code. No conditions. -/
set_option linter.unusedSimpArgs false
set_option linter.unusedVariables false
namespace Go.Proofs.YtlgamlamolfnlaaGreat
open Go Go.Proofs Go.Abs

/-- A contract for arguments of which more is known, pairwise. -/
theorem calls_wks {P : Program} {Γ : Nat → Option (List AV)} {f : FuncId} {xs bs : List AV} {h : AH} {R : AV → AH → Prop} (H : ACalls P Γ f bs h R) (e : Wks xs bs) : ACalls P Γ f xs h R :=
  ⟨H.1, fun G w vs hI hv => H.2 G w vs hI ⟨by rw [← hv.1]; exact e.get.1.symm, fun j c ej => by obtain ⟨d, e1, e2⟩ := e.get.2 j c ej; exact e2 _ _ (hv.2 j d e1)⟩⟩
/-- A list without the element at a place. -/
def dropAt (l : List Int) (k : Nat) : List Int := l.take k ++ l.drop (k + 1)
theorem dropAt_sub (l : List Int) (k : Nat) : (dropAt l k).Sublist l := by
  have h : l = l.take k ++ l.drop k := (List.take_append_drop k l).symm
  conv => rhs; rw [h]
  refine List.Sublist.append (.refl _) ?_
  have : l.drop (k + 1) = (l.drop k).drop 1 := by rw [List.drop_drop]
  rw [this]
  exact List.drop_sublist 1 _
theorem dropAt_len (l : List Int) (k : Nat) (h : k < l.length) : (dropAt l k).length + 1 = l.length := by simp [dropAt]; omega
theorem not_less {g : Gt} {most : Int} {w : List Int} (h : errL g most = 0) (hl : lockR g most = (w, true, 0)) (k : Nat) (hk : k < w.length) : locksF g (dropAt w k) = false := by
  have hE := errL_ok h
  rcases lock_cases h with ⟨v, e1, e2, e3, e4, e5⟩ | ⟨e1, _⟩
  · rw [hl] at e1
    cases e1
    have hlen := dropAt_len w k hk
    cases hx : locksF g (dropAt w k) with
    | false => rfl
    | true =>
      have := up_first hE.p e2 ((dropAt_sub w k).trans e3) (by omega) hx
      omega
  · rw [hl] at e1; cases e1
structure MoreF (g : Gt) (few many : Int) (x y : List Int) (ok is : Bool) (l1 l2 : List (List Int)) : Prop where
  k1 : lockR g few = (x, ok, 0)
  k2 : lockR g many = (y, is, 0)
  s1 : safeR g few = (l1, !ok, 0)
  s2 : safeR g many = (l2, !is, 0)
  xy : ok = true → is = true ∧ x = y
  w : is = true → y.Sublist (pplF g)
  no : is = true → ∀ k, k < y.length → permF g (dropAt y k) = true → permF g (wtF (pplF g) (dropAt y k)) = true
theorem safe_shape {g : Gt} {most : Int} (h : errL g most = 0) : ∃ l, safeR g most = (l, !(lockR g most).2.1, 0) := by
  obtain ⟨h1, _, h3⟩ := lock_or_safe h
  refine ⟨(safeR g most).1, ?_⟩
  rw [h1, Bool.not_not]
  conv => rhs; rw [← h3]
theorem more26_facts {g : Gt} {few many : Int} (h1 : errL g few = 0) (hle : few ≤ many) (hm : many ≤ 64) : ∃ x y ok is l1 l2, MoreF g few many x y ok is l1 l2 := by
  have hk := errL_ok h1
  have h2 := errL_more h1 (by have := hk.m.1; omega) hm
  obtain ⟨l1, e1⟩ := safe_shape h1
  obtain ⟨l2, e2⟩ := safe_shape h2
  have a1 := (lock_or_safe h1).2.1
  have a2 := (lock_or_safe h2).2.1
  have b1 : lockR g few = ((lockR g few).1, (lockR g few).2.1, 0) := by conv => rhs; rw [← a1]
  have b2 : lockR g many = ((lockR g many).1, (lockR g many).2.1, 0) := by conv => rhs; rw [← a2]
  refine ⟨_, _, _, _, l1, l2, b1, b2, e1, e2, fun ho => ?_, fun hi => ?_, fun hi k hk2 hp => ?_⟩
  · have b3 := b1
    rw [ho] at b3
    have := lock_more h1 h2 hle b3
    rw [this]
    exact ⟨rfl, rfl⟩
  · rcases lock_cases h2 with ⟨v, q1, q2, q3, _⟩ | ⟨q1, _⟩
    · rw [q1]; exact q3
    · rw [q1] at hi; cases hi
  · have b3 := b2
    rw [hi] at b3
    have := not_less h2 b3 k hk2
    simp only [locksF, hp, Bool.true_and, Bool.not_eq_false'] at this
    exact this
theorem rem9 (a : Nat) : Int.tmod (a : Int) 9 = ((a % 9 : Nat) : Int) := by rw [Int.tmod_eq_emod_of_nonneg (by omega)]; omega
set_option maxHeartbeats 1600000 in
set_option maxRecDepth 100000 in
theorem lockMore_calls (Γ : Nat → Option (List AV)) (g : Gt) (a b : Nat) (h : AH) (hs : Sh g) (ha : a < 256) (hb : b < 256) :
    ACalls Tryz.prog Γ 6 [encG g, .int .u8 a, .int .u8 b] h fun v h' => h' = h ∧ v = .bool true := by
  obtain ⟨few, hf⟩ : ∃ few : Nat, few = min (a % 9) (b % 9) := ⟨_, rfl⟩
  obtain ⟨many, hmn⟩ : ∃ many : Nat, many = max (a % 9) (b % 9) := ⟨_, rfl⟩
  have c1 := fun h => small26_calls Γ g few h hs
  cases hu : small26F g few with
  | false =>
    rw [hu] at c1
    cases g with | mk p n gl =>
    simp only [encG_mk] at c1 ⊢
    refine ACalls.drop ?_
    refine acalls_code (rs := [.tmp 6]) Tryz.func6 rfl rfl rfl rfl Ty.mixed (by kernel_rfl) ?_
    simp (disch := omega) only [go_sem, seval]
    refine ACalls.det (sane26_calls Γ _) ?_
    simp (disch := omega) only [go_sem, seval]
    rw [rem9, rem9]
    refine aIf.intro (fun hgt => ?_) (fun hgt => ?_) <;> simp (disch := omega) only [go_sem, seval]
    focus rw [show b % 9 = few from by omega]
    rotate_left
    focus rw [show a % 9 = few from by omega]
    all_goals
      refine ACalls.det (c1 _) ?_
      simp (disch := omega) only [go_sem, seval]
  | true =>
    have hok := small26_ok hu
    rw [hu] at c1
    have hk := errL_ok hok.e
    have hpn := hok.n
    have hlv := hok.lv
    obtain ⟨x, y, ok, is, l1, l2, F⟩ := more26_facts (many := (many : Int)) hok.e (by omega) (by omega)
    have hxl := lockR_len g few
    rw [F.k1] at hxl
    have hyl := lockR_len g many
    rw [F.k2] at hyl
    simp only at hxl hyl
    have c2 := fun h => ppl26_calls Γ g h hs (by omega)
    have c3 := fun h => lockout_calls Γ g few h hs
    have c4 := fun h => lockout_calls Γ g many h hs
    have c5 := fun h => safe26_calls Γ g few h hs
    have c6 := fun h => safe26_calls Γ g many h hs
    have c7 := fun h => sameI26_calls Γ x y h (by omega)
    have c8 := fun l (hl : l.length ≤ 12) h => Holds_calls Γ g l h hs (by omega)
    have c9 := fun l (hl : l.length ≤ 12) h => others26_calls Γ (pplF g) l h (by omega) (by omega)
    have e8 : ∀ l, l.Sublist (pplF g) → encR (holdsR g l) = .tuple [.bool (permF g l), .int .i64 0] := fun l hl => by
      rw [(permF_asc hk.c (sub_asc hk.c hl)).1]; rfl
    have hwt := fun l => wt_sub (pplF g) l
    have hno := F.no
    have hxy := F.xy
    have hw := F.w
    rw [F.k1, encLk] at c3
    rw [F.k2, encLk] at c4
    rw [F.s1, encSf] at c5
    rw [F.s2, encSf] at c6
    generalize hPe : pplF g = P at *
    clear hk hok hPe hu F
    cases g with | mk p n gl =>
    obtain ⟨g, hg⟩ : ∃ g, g = Gt.mk p n gl := ⟨_, rfl⟩
    have eG : encG g = .agg [.int .i64 p, .int .i64 n, .sl (gl.map encG) .free] := by rw [hg, encG_mk]
    rw [← hg] at c1 c2 c3 c4 c5 c6 hno ⊢
    simp only [← hg] at c8 e8
    rw [eG] at c1 c2 c3 c4 c5 c6 ⊢
    simp only [eG] at c8
    refine ACalls.drop ?_
    refine acalls_code (rs := [.tmp 6]) Tryz.func6 rfl rfl rfl rfl Ty.mixed (by kernel_rfl) ?_
    simp (disch := omega) only [go_sem, seval]
    refine ACalls.det (sane26_calls Γ _) ?_
    simp (disch := omega) only [go_sem, seval]
    rw [rem9, rem9]
    obtain ⟨K, hK⟩ : ∃ K : AH, K = h ++ [.row [.int .i64 p, .int .i64 n, .sl (gl.map encG) .free] 24] := ⟨_, rfl⟩
    have KD : ∀ j : AH, ∃ l, K ++ j = h ++ l := by subst hK; intro j; exact ⟨_, List.append_assoc ..⟩
    have Kg : ∀ j : AH, (K ++ j)[h.length]? = some (.row [.int .i64 p, .int .i64 n, .sl (gl.map encG) .free] 24) := by subst hK; simp
    refine aIf.intro (fun hgt => ?_) (fun hgt => ?_) <;> simp (disch := omega) only [go_sem, seval]
    focus rw [show b % 9 = few from by omega, show a % 9 = many from by omega]
    rotate_left
    focus rw [show a % 9 = few from by omega, show b % 9 = many from by omega]
    all_goals
      refine ACalls.det (c1 _) ?_
      simp (disch := omega) only [go_sem, seval]
      refine ACalls.det (c3 _) ?_
      simp (disch := omega) only [go_sem, seval]
      refine ACalls.det (c4 _) ?_
      simp (disch := omega) only [go_sem, seval]
      refine ACalls.det (c5 _) ?_
      simp (disch := omega) only [go_sem, seval]
      refine ACalls.det (c6 _) ?_
      cases is
      focus
        cases ok
        focus
          simp (disch := omega) only [go_sem, seval]
        focus
          exact absurd (hxy rfl).1 (by decide)
      have hyP := hw rfl
      have hno := hno rfl
      cases ok
      focus
        simp (disch := omega) only [go_sem, seval]
      rotate_left
      focus
        have hxy2 := (hxy rfl).2.symm
        subst hxy2
        rw [decide_eq_true rfl] at c7
        simp (disch := omega) only [go_sem, seval]
        refine ACalls.det (c7 _) ?_
        simp (disch := omega) only [go_sem, seval]
      all_goals
        refine ACalls.det (c2 _) ?_
        simp (disch := omega) only [go_sem, seval, encI_len]
        rw [← hK]
    all_goals
      refine awp_loopL (β := AH) y [3, 12, 21, 112, 113] (fun don _ => [(3, .ptr (some (h.length, 0))), (12, .sl (encI y) .free), (21, .sl (encI P) .free), (112, .int .i64 y.length), (113, .int .i64 don.length)]) (fun j => K ++ j) (fun _ _ _ => True) [] ?_ (by simp) trivial Ty.mixed (by kernel_rfl) ?_ ?_
      focus simp (disch := omega) only [go_sem, seval]
      focus
        rintro don e r j hd _
        have hlen : y.length = don.length + 1 + r.length := by rw [hd]; simp; omega
        have hdl := dropAt_len y don.length (by omega)
        have hds := (dropAt_sub y don.length).trans hyP
        have hwl := wtF_len P (dropAt y don.length)
        have c8a := fun h => c8 (dropAt y don.length) (by omega) h
        have c9a := fun h => c9 (dropAt y don.length) (by omega) h
        have c8b := fun h => c8 (wtF P (dropAt y don.length)) (by omega) h
        simp only [e8 _ hds] at c8a
        simp only [e8 _ (hwt _)] at c8b
        have hn := hno don.length (by omega)
        simp (disch := omega) only [go_sem, seval, encI_len]
        refine aIf.pos (by omega) ?_
        simp (disch := omega) only [go_sem, seval, encI_len]
        refine ⟨rowsOK_I _, by omega, ?_⟩
        rw [encI_take]
        refine aAp_full (rowsOK_I []) (rowsOK_I _) (by simp [encI_len]; omega) (by simp [encI_len]; omega) ?_
        simp (disch := omega) only [go_sem, seval, List.nil_append, encI_len]
        refine ⟨rowsOK_I _, by omega, by omega, ?_⟩
        rw [show ((don.length : Int) + 1).toNat = don.length + 1 from by omega, encI_drop]
        have hjl : (K ++ (j ++ [AObj.arena (0 + (List.take don.length y).length)]))[K.length + j.length]? = some (.arena (encI (List.take don.length y)).length) := by
          rw [hget_add, List.getElem?_append_right (Nat.le_refl _), Nat.sub_self, encI_len, Nat.zero_add]; rfl
        refine aAp_arena hjl (rowsOK_I _) (rowsOK_I _) (by simp [encI_len]; omega) (by simp [encI_len]; omega) ?_
        rw [← encI_app, show List.take don.length y ++ List.drop (don.length + 1) y = dropAt y don.length from rfl, hset_add, List.set_append_right _ _ (Nat.le_refl _), Nat.sub_self]
        simp (disch := omega) only [go_sem, seval, Kg]
        refine ACalls.det (calls_wks (c8a _) (.cons (.refl _) (.cons (.sl _ _) .nil))) ?_
        simp (disch := omega) only [go_sem, seval, Kg]
        refine aCallF.intro (fun _ => calls_wks (c9a _) (.cons (.refl _) (.cons (.sl _ _) .nil))) ?_
        simp (disch := omega) only [go_sem, seval, Kg]
        refine aCallF.intro (fun _ => c8b _) ?_
        clear c8a c8b c9a
        generalize permF g (dropAt y don.length) = q1 at hn
        generalize permF g (wtF P (dropAt y don.length)) = q2 at hn
        cases q1 <;> cases q2
        rotate_left 2
        focus exact absurd (hn rfl) (by decide)
        all_goals
          simp (disch := omega) only [go_sem, seval]
          refine roundL_next (j ++ _) trivial ?_ rfl
          simp (disch := omega) only [go_sem, seval, List.length_append]
      intro j _
      simp (disch := omega) only [go_sem, seval, encI_len]
      refine AWP.keep [] (aCode_ok Ty.mixed _ _ _ _ (by kernel_rfl) ?_)
      simp (disch := omega) only [go_sem, seval]
      first | exact KD j | skip
end Go.Proofs.YtlgamlamolfnlaaGreat
