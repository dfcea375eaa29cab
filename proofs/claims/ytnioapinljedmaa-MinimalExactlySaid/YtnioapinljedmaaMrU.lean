/- Texts joined: MinN. No conditions. -/
import Derived.Test.YtnioapinljedmaaMrS
/- The law MinimalExactly: the code. No conditions. -/
set_option linter.unusedSimpArgs false
set_option linter.unusedVariables false
namespace Go.Proofs.Ytnioapinljedmaa
open Go Go.Proofs Go.Abs

theorem and_one_16 (q : Nat) (hq : q < 65536) : bitsOp .and .u16 (q : Int) 1 = (q % 2 : Nat) := by
  have h1 : (BitVec.ofInt 16 (q : Int) &&& BitVec.ofInt 16 1).toNat = q % 2 := by
    rw [BitVec.toNat_and, show (BitVec.ofInt 16 1).toNat = 1 from rfl, BitVec.ofInt_natCast, BitVec.toNat_ofNat, Nat.and_one_is_mod]
    omega
  show IntKind.u16.wrap ((BitVec.ofInt 16 (q : Int) &&& BitVec.ofInt 16 1).toNat : Int) = _
  rw [h1, IntWalk.u16_in _ ⟨by omega, by omega⟩]
theorem wt_share {g : Gt} (h : checkF g = 0) {a b : List Int} (ha : a ∈ setsF g) (hb : b ∈ blksF g) : (wtF a b).length < a.length := by
  obtain ⟨x, h1, h2⟩ := sets_meet h ha hb
  refine Nat.lt_of_le_of_ne (wtF_len a b) fun e => ?_
  have := List.filter_eq_self.1 (List.filter_sublist.eq_of_length e) x h1
  simp [h2] at this
set_option maxRecDepth 100000 in
theorem minExactly_calls (Γ : Nat → Option (List AV)) (g : Gt) (m : Nat) (h : AH) (hs : Sh g) (hm : m < 65536) :
    ACalls Try.prog Γ 12 [encG g, .int .u16 m] h fun v h' => h' = h ∧ v = .bool true := by
  have c1 := fun h => lists_calls Γ g h hs
  rw [listsV] at c1
  cases hu : useF g with
  | false =>
    rw [hu] at c1
    cases g with | mk p n gl =>
    simp only [encG_mk, Bool.false_eq_true, if_false] at c1 ⊢
    refine ACalls.drop ?_
    refine acalls_code (rs := [.tmp 4]) Try.func12 rfl rfl rfl rfl Ty.mixed (by kernel_rfl) ?_
    simp (disch := omega) only [go_sem, seval]
    refine ACalls.det (sane24_calls Γ _) ?_
    simp (disch := omega) only [go_sem, seval]
    refine ACalls.det (c1 _) ?_
    simp (disch := omega) only [go_sem, seval]
  | true =>
    have hok := use_ok hu
    rw [hu, if_pos rfl] at c1
    have hpn := hok.n
    have hP := hok.p
    have hsl := hok.s
    have hbl := hok.b
    have hwho := listF_sub (pplF g) m
    have hwl := hwho.length_le
    have hol := wtF_len (pplF g) (listF (pplF g) m)
    have ha1 := sub_asc hok.c hwho
    have ha2 := sub_asc hok.c (wt_sub (pplF g) (listF (pplF g) m))
    have c2 := fun h => ppl_calls Γ g h hs (by have := hok.lv; omega)
    have c3 := fun h => Holds_calls Γ g (listF (pplF g) m) h hs (by omega)
    have c4 := fun h => without_calls Γ (pplF g) (listF (pplF g) m) h (by omega) (by omega)
    have c5 := fun h => Holds_calls Γ g (wtF (pplF g) (listF (pplF g) m)) h hs (by omega)
    have c6 := fun h => some_calls Γ (setsF g) (listF (pplF g) m) h (by omega) (fun s k => by have := (sets_in hok k).2; omega) (by omega)
    have c7 := fun h => some_calls Γ (blksF g) (listF (pplF g) m) h (by omega) (fun s k => by have := (blks_in hok k).2; omega) (by omega)
    rw [(permF_asc hok.c ha1).1, encR] at c3
    rw [(permF_asc hok.c ha2).1, encR] at c5
    rw [setsF, mins_some hP (hold_mono hok.c) hwho, holdP] at c6
    rw [blksF, mins_some hP (blk_mono hok.c) hwho, blkP] at c7
    rw [← setsF] at c6
    rw [← blksF] at c7
    have c8 := fun a b h (k1 : a ∈ setsF g) (k2 : b ∈ blksF g) => without_calls Γ a b h (by have := (sets_in hok k1).2; omega) (by have := (blks_in hok k2).2; omega)
    have hsh := fun a b (k1 : a ∈ setsF g) (k2 : b ∈ blksF g) => wt_share hok.c k1 k2
    have hin := fun a (k : a ∈ setsF g) => (sets_in hok k).2
    generalize setsF g = S at *
    generalize blksF g = B at *
    generalize permF g (listF (pplF g) m) = b1 at c3 c6
    generalize permF g (wtF (pplF g) (listF (pplF g) m)) = b2 at c5 c7
    generalize hPe : pplF g = P at *
    cases g with | mk p n gl =>
    simp only [encG_mk] at c1 c2 c3 c5 ⊢
    refine ACalls.drop ?_
    refine acalls_code (rs := [.tmp 4]) Try.func12 rfl rfl rfl rfl Ty.mixed (by kernel_rfl) ?_
    simp (disch := omega) only [go_sem, seval]
    refine ACalls.det (sane24_calls Γ _) ?_
    simp (disch := omega) only [go_sem, seval]
    refine ACalls.det (c1 _) ?_
    simp (disch := omega) only [go_sem, seval]
    refine ACalls.det (c2 _) ?_
    simp (disch := omega) only [go_sem, seval, encI_len]
    obtain ⟨K, hK⟩ : ∃ K : AH, K = h ++ [.row [.int .i64 p, .int .i64 n, .sl (gl.map encG) .free] 24] := ⟨_, rfl⟩
    have KD : ∀ j : AH, ∃ l, K ++ j = h ++ l := by subst hK; intro j; exact ⟨_, List.append_assoc ..⟩
    have Kg : ∀ j : AH, (K ++ j)[h.length]? = some (.row [.int .i64 p, .int .i64 n, .sl (gl.map encG) .free] 24) := by subst hK; simp
    refine awp_loopL (β := FlS) P [1, 2, 5, 6, 9, 10, 39, 40, 41] (fun don s1 => [(1, .int .u16 m), (2, .ptr (some (h.length, 0))), (5, .sl (encII S) .free), (6, .sl (encII B) .free), (9, .sl (encI P) .free), (10, .sl (encI s1.l) s1.own), (39, .sl (encI P) .free), (40, .int .i64 P.length), (41, .int .i64 don.length)])
      (fun s1 => K ++ s1.j) (fun don rest s1 => OwnAt K s1.j s1.l.length s1.own ∧ s1.l.length ≤ don.length ∧ listF P m = s1.l ++ listF rest (m / 2 ^ don.length)) ⟨[], .full, []⟩ ?_ (by simp [hK]) ⟨trivial, by simp, by simp⟩ Ty.mixed (by kernel_rfl) ?_ ?_
    · simp (disch := omega) only [go_sem, seval]
      rfl
    · rintro don x r ⟨l, own, j⟩ hd ⟨ho, hll, hx⟩
      simp only at ho hll hx ⊢
      have hlen : P.length = don.length + 1 + r.length := by rw [hd]; simp; omega
      have e1 : (encI P)[don.length]? = some (.int .i64 x) := by rw [hd]; simp [encI]
      have hmr : m / 2 ^ don.length ≤ m := Nat.div_le_self _ _
      rw [listF, Nat.div_div_eq_div_mul, ← Nat.pow_succ] at hx
      simp (disch := omega) only [go_sem, seval, encI_len]
      refine aIf.pos (by omega) ?_
      simp (disch := omega) only [go_sem, seval, encI_len, e1]
      rw [Nat.min_eq_left (by omega), fdiv_pow, and_one_16 _ (by omega)]
      refine aIf.intro (fun hbit => ?_) (fun hbit => ?_) <;> simp (disch := omega) only [go_sem, seval]
      · rw [if_pos (by omega)] at hx
        refine aAp_sl (by rw [encI_len]; exact ho) (rowsOK_I _) (rowsOK_I [x]) (by simp [encI_len]; omega) (by simp [encI_len]; omega) fun j' own' ho2 hg => ?_
        rw [encI_snoc]
        simp (disch := omega) only [go_sem, seval]
        refine roundL_next ⟨l ++ [x], own', j'⟩ ⟨?_, ?_, ?_⟩ ?_ rfl
        · simpa [encI_len] using ho2
        · simp; omega
        · rw [hx]; simp
        · simp (disch := omega) only [go_sem, seval, List.length_append]
      · rw [if_neg (by omega)] at hx
        refine roundL_next ⟨l, own, j⟩ ⟨ho, by simp; omega, ?_⟩ ?_ rfl
        · rw [hx]; simp
        · simp (disch := omega) only [go_sem, seval, List.length_append]
    · rintro ⟨l, own, j⟩ ⟨ho, hll, hx⟩
      simp only at ho hll hx ⊢
      simp (disch := omega) only [go_sem, seval, encI_len]
      rw [listF, List.append_nil] at hx
      rw [← hx]
      refine AWP.keep [2, 5, 6, 9, 10] (AWP.lzs (aCode_ok Ty.mixed _ _ _ _ (by kernel_rfl) ?_))
      simp (disch := omega) only [go_sem, seval, Kg]
      refine ACalls.det (c3 _) ?_
      simp (disch := omega) only [go_sem, seval, Kg]
      refine aCallF.intro (fun _ => c4 _) ?_
      simp (disch := omega) only [go_sem, seval, Kg]
      refine aCallF.intro (fun _ => c5 _) ?_
      simp (disch := omega) only [go_sem, seval]
      have KDj := KD j
      cases b1 <;> cases b2
      all_goals
        refine ACalls.det (c6 _) ?_
        simp (disch := omega) only [go_sem, seval]
        refine ACalls.det (c7 _) ?_
        simp (disch := omega) only [go_sem, seval, encII_len]
        refine awp_loopL (β := Unit) S [6, 90, 91, 92] (fun don _ => [(6, .sl (encII B) .free), (90, .sl (encII S) .free), (91, .int .i64 S.length), (92, .int .i64 don.length)]) (fun _ => K ++ j) (fun _ _ _ => True) () ?_ rfl trivial Ty.mixed (by kernel_rfl) ?_ ?_
        · simp (disch := omega) only [go_sem, seval]
        · rintro don a r _ hd _
          have hlen : S.length = don.length + (r.length + 1) := by rw [hd]; simp
          have e1 : (encII S)[don.length]? = some (.sl (encI a) .free) := by rw [hd]; exact encII_get don r a
          have haS : a ∈ S := by rw [hd]; simp
          simp (disch := omega) only [go_sem, seval]
          refine aIf.pos (by omega) ?_
          simp (disch := omega) only [go_sem, seval, e1, encII_len]
          refine awp_loopL (β := Unit) B [6, 18, 90, 91, 92, 96, 97, 98] (fun don2 _ => [(6, .sl (encII B) .free), (18, .sl (encI a) .free), (90, .sl (encII S) .free), (91, .int .i64 S.length), (92, .int .i64 don.length), (96, .sl (encII B) .free), (97, .int .i64 B.length), (98, .int .i64 don2.length)]) (fun _ => K ++ j) (fun _ _ _ => True) () ?_ rfl trivial Ty.mixed (by kernel_rfl) ?_ ?_
          · simp (disch := omega) only [go_sem, seval]
          · rintro don2 b r2 _ hd2 _
            have hlen2 : B.length = don2.length + (r2.length + 1) := by rw [hd2]; simp
            have e2 : (encII B)[don2.length]? = some (.sl (encI b) .free) := by rw [hd2]; exact encII_get don2 r2 b
            have hbB : b ∈ B := by rw [hd2]; simp
            have hlt := hsh a b haS hbB
            simp (disch := omega) only [go_sem, seval]
            refine aIf.pos (by omega) ?_
            simp (disch := omega) only [go_sem, seval, e2]
            refine ACalls.det (c8 a b _ haS hbB) ?_
            simp (disch := omega) only [go_sem, seval, encI_len]
            refine aIf.neg (by omega) ?_
            simp (disch := omega) only [go_sem, seval]
            refine roundL_next () trivial ?_ rfl
            simp (disch := omega) only [go_sem, seval, List.length_append]
          · intro _ _
            simp (disch := omega) only [go_sem, seval]
            refine AWP.keep [6, 90, 91, 92] (aCode_ok Ty.mixed _ _ _ _ (by kernel_rfl) ?_)
            simp (disch := omega) only [go_sem, seval]
            refine roundL_next () trivial ?_ rfl
            simp (disch := omega) only [go_sem, seval, List.length_append]
        · intro _ _
          simp (disch := omega) only [go_sem, seval]
          refine AWP.keep [] (aCode_ok Ty.mixed _ _ _ _ (by kernel_rfl) ?_)
          simp (disch := omega) only [go_sem, seval]
          exact KDj
end Go.Proofs.Ytnioapinljedmaa
