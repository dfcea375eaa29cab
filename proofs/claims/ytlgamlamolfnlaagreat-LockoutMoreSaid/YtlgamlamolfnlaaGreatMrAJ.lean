/- Texts joined: LokT. No conditions. -/
import Derived.Test.YtlgamlamolfnlaaGreatMrAI
/- The law LockoutBlocks: the code. No conditions. -/
set_option linter.unusedSimpArgs false
set_option linter.unusedVariables false
namespace Go.Proofs.YtlgamlamolfnlaaGreat
open Go Go.Proofs Go.Abs

theorem and_one_8 (q : Nat) (hq : q < 256) : bitsOp .and .u8 (q : Int) 1 = (q % 2 : Nat) := by
  have h1 : (BitVec.ofInt 8 (q : Int) &&& BitVec.ofInt 8 1).toNat = q % 2 := by
    rw [BitVec.toNat_and, show (BitVec.ofInt 8 1).toNat = 1 from rfl, BitVec.ofInt_natCast, BitVec.toNat_ofNat, Nat.and_one_is_mod]
    omega
  show IntKind.u8.wrap ((BitVec.ofInt 8 (q : Int) &&& BitVec.ofInt 8 1).toNat : Int) = _
  rw [h1, IntWalk.u8_in _ ⟨by omega, by omega⟩]
structure SmallL (g : Gt) (most : Int) : Prop where
  e : errL g most = 0
  n : (pplF g).length ≤ 7
  lv : allLeaves g ≤ 40
theorem small26_ok {g : Gt} {most : Int} (h : small26F g most = true) : SmallL g most := by
  simp only [small26F, Bool.and_eq_true, decide_eq_true_eq] at h
  exact ⟨h.2, h.1.2, leaves40 h.1.1⟩
theorem blks_len {g : Gt} (h : checkF g = 0) {s : List Int} (hs : s ∈ blksF g) : s.length ≤ (pplF g).length := ((mem_mins (ppl_lt h) s).1 hs).1.length_le
set_option maxHeartbeats 1600000 in
set_option maxRecDepth 100000 in
theorem lockBlocks_calls (Γ : Nat → Option (List AV)) (g : Gt) (m : Nat) (h : AH) (hs : Sh g) (hm : m < 256) :
    ACalls Tryz.prog Γ 7 [encG g, .int .u8 m] h fun v h' => h' = h ∧ v = .bool true := by
  have c1 := fun h => small26_calls Γ g 0 h hs
  cases hu : small26F g 0 with
  | false =>
    rw [hu] at c1
    cases g with | mk p n gl =>
    simp only [encG_mk] at c1 ⊢
    refine ACalls.drop ?_
    refine acalls_code (rs := [.tmp 4]) Tryz.func7 rfl rfl rfl rfl Ty.mixed (by kernel_rfl) ?_
    simp (disch := omega) only [go_sem, seval]
    refine ACalls.det (sane26_calls Γ _) ?_
    simp (disch := omega) only [go_sem, seval]
    refine ACalls.det (c1 _) ?_
    simp (disch := omega) only [go_sem, seval]
  | true =>
    have hok := small26_ok hu
    rw [hu] at c1
    have hk := errL_ok hok.e
    have hpn := hok.n
    have hP := ppl_lt hk.c
    have hsl := hk.s
    have hlv := hok.lv
    have hwho := listF_sub (pplF g) m
    have hwl := hwho.length_le
    have hol := wtF_len (pplF g) (listF (pplF g) m)
    have ha1 := sub_asc hk.c hwho
    have ha2 := sub_asc hk.c (wt_sub (pplF g) (listF (pplF g) m))
    have c2 := fun h => ppl26_calls Γ g h hs (by omega)
    have c3 := fun h => Holds_calls Γ g (listF (pplF g) m) h hs (by omega)
    have c4 := fun h => others26_calls Γ (pplF g) (listF (pplF g) m) h (by omega) (by omega)
    have c5 := fun h => Holds_calls Γ g (wtF (pplF g) (listF (pplF g) m)) h hs (by omega)
    have c6 := fun h => psets_calls Γ g h hs
    have c7 := fun h => pblks_calls Γ g h hs
    have c8 := fun a (ha : a.length ≤ 12) h => within_calls Γ a (listF (pplF g) m) h (by omega) (by omega)
    have hsl2 : ∀ a ∈ setsF g, a.length ≤ 12 := fun a ha => sets_len hok.e ha
    have hbl2 : ∀ a ∈ blksF g, a.length ≤ 12 := fun a ha => by have := blks_len hk.c ha; omega
    have hsay := blocks_say hk.c hwho
    rw [(permF_asc hk.c ha1).1, encR] at c3
    rw [(permF_asc hk.c ha2).1, encR] at c5
    rw [hk.r, encS] at c6
    have hbk : smallR g true = if 256 < (blksF g).length then ([], 2) else (blksF g, 0) := by
      rw [smallR, if_pos hk.e]; rfl
    rw [hbk, encS] at c7
    generalize setsF g = S at *
    generalize blksF g = B at *
    generalize permF g (listF (pplF g) m) = b1 at *
    generalize permF g (wtF (pplF g) (listF (pplF g) m)) = b2 at *
    generalize hPe : pplF g = P at *
    clear hk hok hP hPe hu hbk
    cases g with | mk p n gl =>
    simp only [encG_mk] at c1 c2 c3 c5 c6 c7 ⊢
    refine ACalls.drop ?_
    refine acalls_code (rs := [.tmp 4]) Tryz.func7 rfl rfl rfl rfl Ty.mixed (by kernel_rfl) ?_
    simp (disch := omega) only [go_sem, seval]
    refine ACalls.det (sane26_calls Γ _) ?_
    simp (disch := omega) only [go_sem, seval]
    refine ACalls.det (c1 _) ?_
    simp (disch := omega) only [go_sem, seval]
    refine ACalls.det (c6 _) ?_
    simp (disch := omega) only [go_sem, seval]
    refine ACalls.det (c7 _) ?_
    by_cases hbig : 256 < B.length
    · rw [if_pos hbig]
      simp (disch := omega) only [go_sem, seval]
    rw [if_neg hbig]
    simp (disch := omega) only [go_sem, seval]
    refine ACalls.det (c2 _) ?_
    simp (disch := omega) only [go_sem, seval, encI_len]
    obtain ⟨K, hK⟩ : ∃ K : AH, K = h ++ [.row [.int .i64 p, .int .i64 n, .sl (gl.map encG) .free] 24] := ⟨_, rfl⟩
    have KD : ∀ j : AH, ∃ l, K ++ j = h ++ l := by subst hK; intro j; exact ⟨_, List.append_assoc ..⟩
    have Kg : ∀ j : AH, (K ++ j)[h.length]? = some (.row [.int .i64 p, .int .i64 n, .sl (gl.map encG) .free] 24) := by subst hK; simp
    refine awp_loopL (β := FlS) P [1, 2, 5, 7, 9, 10, 52, 53, 54] (fun don s1 => [(1, .int .u8 m), (2, .ptr (some (h.length, 0))), (5, .sl (encII S) .free), (7, .sl (encII B) .free), (9, .sl (encI P) .free), (10, .sl (encI s1.l) s1.own), (52, .sl (encI P) .free), (53, .int .i64 P.length), (54, .int .i64 don.length)])
      (fun s1 => K ++ s1.j) (fun don rest s1 => OwnAt K s1.j s1.l.length s1.own ∧ s1.l.length ≤ don.length ∧ listF P m = s1.l ++ listF rest (m / 2 ^ don.length)) ⟨[], .full, []⟩ ?_ (by simp [hK]) ⟨trivial, by simp, by simp⟩ Ty.mixed (by kernel_rfl) ?_ ?_
    · simp (disch := omega) only [go_sem, seval]
      rfl
    · rintro don x r ⟨l, own, j⟩ hd ⟨ho, hll, hx⟩
      simp only at ho hll hx ⊢
      have hlen : P.length = don.length + 1 + r.length := by rw [hd]; simp; omega
      have e1 : (encI P)[don.length]? = some (.int .i64 x) := by rw [hd]; simp [encI]
      have hmr : m / 2 ^ don.length ≤ m := Nat.div_le_self _ _
      rw [listF, Nat.div_div_eq_div_mul, ← Nat.pow_succ] at hx
      simp (disch := omega) only [go_sem, seval, encI_len]
      refine aIf.pos (by omega) ?_
      simp (disch := omega) only [go_sem, seval, encI_len, e1]
      rw [Nat.min_eq_left (by omega), fdiv_pow, and_one_8 _ (by omega)]
      refine aIf.intro (fun hbit => ?_) (fun hbit => ?_) <;> simp (disch := omega) only [go_sem, seval]
      · rw [if_pos (by omega)] at hx
        refine aAp_sl (by rw [encI_len]; exact ho) (rowsOK_I _) (rowsOK_I [x]) (by simp [encI_len]; omega) (by simp [encI_len]; omega) fun j' own' ho2 hg => ?_
        rw [encI_snoc]
        simp (disch := omega) only [go_sem, seval]
        refine roundL_next ⟨l ++ [x], own', j'⟩ ⟨?_, ?_, ?_⟩ ?_ rfl
        · simpa [encI_len] using ho2
        · simp; omega
        · rw [hx]; simp
        · simp (disch := omega) only [go_sem, seval, List.length_append]
      · rw [if_neg (by omega)] at hx
        refine roundL_next ⟨l, own, j⟩ ⟨ho, by simp; omega, ?_⟩ ?_ rfl
        · rw [hx]; simp
        · simp (disch := omega) only [go_sem, seval, List.length_append]
    · rintro ⟨l, own, j⟩ ⟨ho, hll, hx⟩
      simp only at ho hll hx ⊢
      simp (disch := omega) only [go_sem, seval, encI_len]
      rw [listF, List.append_nil] at hx
      subst hx
      generalize listF P m = W at *
      refine AWP.keep [2, 5, 7, 9, 10] (AWP.lzs (aCode_ok Ty.mixed _ _ _ _ (by kernel_rfl) ?_))
      simp (disch := omega) only [go_sem, seval, Kg, encII_len]
      have KDj := KD j
      refine awp_loopL (β := Unit) S [2, 7, 9, 10, 13, 14, 69, 70, 71] (fun dn _ => [(2, .ptr (some (h.length, 0))), (7, .sl (encII B) .free), (9, .sl (encI P) .free), (10, .sl (encI W) .free), (13, .bool (someF dn W)), (14, .bool false), (69, .sl (encII S) .free), (70, .int .i64 S.length), (71, .int .i64 dn.length)])
        (fun _ => K ++ j) (fun _ _ _ => True) () ?_ rfl trivial Ty.mixed (by kernel_rfl) ?_ ?_
      · simp (disch := omega) only [go_sem, seval, encII_len]
        rfl
      · rintro dn a r _ hd _
        have hlen : S.length = dn.length + 1 + r.length := by rw [hd]; simp; omega
        have e1 : (encII S)[dn.length]? = some (.sl (encI a) .free) := by rw [hd]; exact encII_get dn r a
        have hal := hsl2 a (by rw [hd]; simp)
        have hsm : someF (dn ++ [a]) W = (someF dn W || decide (∀ x ∈ a, x ∈ W)) := by rw [someF, List.any_append]; simp [someF]
        simp (disch := omega) only [go_sem, seval, encII_len]
        refine aIf.pos (by omega) ?_
        simp (disch := omega) only [go_sem, seval, e1]
        cases hsd : someF dn W with
        | true =>
          simp (disch := omega) only [go_sem, seval]
          refine roundL_next () trivial ?_ rfl
          simp (disch := omega) only [go_sem, seval, List.length_append]
          rw [hsm, hsd, Bool.true_or]
        | false =>
          simp (disch := omega) only [go_sem, seval]
          refine ACalls.det (c8 a hal _) ?_
          simp (disch := omega) only [go_sem, seval]
          refine roundL_next () trivial ?_ rfl
          simp (disch := omega) only [go_sem, seval, List.length_append]
          rw [hsm, hsd, Bool.false_or]
      · intro _ _
        simp (disch := omega) only [go_sem, seval, encII_len]
        refine AWP.keep [2, 7, 9, 10, 13, 14] (aCode_ok Ty.mixed _ _ _ _ (by kernel_rfl) ?_)
        simp (disch := omega) only [go_sem, seval, encII_len]
        generalize someF S W = sa at hsay ⊢
        refine awp_loopL (β := Unit) B [2, 9, 10, 13, 14, 82, 83, 84] (fun dn _ => [(2, .ptr (some (h.length, 0))), (9, .sl (encI P) .free), (10, .sl (encI W) .free), (13, .bool sa), (14, .bool (someF dn W)), (82, .sl (encII B) .free), (83, .int .i64 B.length), (84, .int .i64 dn.length)])
          (fun _ => K ++ j) (fun _ _ _ => True) () ?_ rfl trivial Ty.mixed (by kernel_rfl) ?_ ?_
        · simp (disch := omega) only [go_sem, seval, encII_len]
          rfl
        · rintro dn a r _ hd _
          have hlen : B.length = dn.length + 1 + r.length := by rw [hd]; simp; omega
          have e1 : (encII B)[dn.length]? = some (.sl (encI a) .free) := by rw [hd]; exact encII_get dn r a
          have hal := hbl2 a (by rw [hd]; simp)
          have hsm : someF (dn ++ [a]) W = (someF dn W || decide (∀ x ∈ a, x ∈ W)) := by rw [someF, List.any_append]; simp [someF]
          simp (disch := omega) only [go_sem, seval, encII_len]
          refine aIf.pos (by omega) ?_
          simp (disch := omega) only [go_sem, seval, e1]
          cases hsd : someF dn W with
          | true =>
            simp (disch := omega) only [go_sem, seval]
            refine roundL_next () trivial ?_ rfl
            simp (disch := omega) only [go_sem, seval, List.length_append]
            rw [hsm, hsd, Bool.true_or]
          | false =>
            simp (disch := omega) only [go_sem, seval]
            refine ACalls.det (c8 a hal _) ?_
            simp (disch := omega) only [go_sem, seval]
            refine roundL_next () trivial ?_ rfl
            simp (disch := omega) only [go_sem, seval, List.length_append]
            rw [hsm, hsd, Bool.false_or]
        · intro _ _
          simp (disch := omega) only [go_sem, seval, encII_len]
          refine AWP.keep [2, 9, 10, 13, 14] (aCode_ok Ty.mixed _ _ _ _ (by kernel_rfl) ?_)
          simp (disch := omega) only [go_sem, seval, Kg]
          generalize someF B W = sb at hsay ⊢
          refine ACalls.det (c3 _) ?_
          simp (disch := omega) only [go_sem, seval, Kg]
          refine aCallF.intro (fun _ => c4 _) ?_
          simp (disch := omega) only [go_sem, seval, Kg]
          refine aCallF.intro (fun _ => c5 _) ?_
          simp (disch := omega) only [go_sem, seval]
          cases sa <;> cases sb <;> cases b1 <;> cases b2 <;> simp at hsay <;> simp (disch := omega) only [go_sem, seval] <;> exact KDj
end Go.Proofs.YtlgamlamolfnlaaGreat
