/- Texts joined: PerR. No conditions. -/
import Derived.Test.YtmdiebdplakccaaDoorMrEP
import Derived.Test.YtmdiebdplakccaaDoorMrEM
/- PermitsMore, the code. No conditions. -/
set_option linter.unusedSimpArgs false
set_option linter.unusedVariables false
namespace Go.Proofs.YtmdiebdplakccaaDoor
open Go Go.Proofs Go.Abs

set_option maxRecDepth 100000 in
theorem with21_calls (Γ : Nat → Option (List AV)) (who : List Int) (n : Int) (h : AH) (hl : who.length ≤ 1000) : ACalls Tryd.prog Γ 17 [.sl (encI who) .free, .int .i64 n] h fun v h' => h' = h ∧ v = .sl (encI (withF who n)) .free := by
  refine ACalls.dropL ?_
  refine acalls_code (rs := [.tmp 4]) Tryd.func17 rfl rfl rfl rfl Ty.mixed (by kernel_rfl) ?_
  simp (disch := omega) only [go_sem, seval, encI_len]
  obtain ⟨lo, hlo⟩ : ∃ lo : Int → Bool, lo = fun i => decide (i < n) := ⟨_, rfl⟩
  obtain ⟨hi, hhi⟩ : ∃ hi : Int → Bool, hi = fun i => decide (n < i) := ⟨_, rfl⟩
  have hd : withF who n = who.filter lo ++ n :: who.filter hi := by rw [hlo, hhi]; rfl
  have len : ∀ (q : Int → Bool) (l : List Int), (l.filter q).length ≤ l.length := fun q l => List.length_filter_le _ _
  refine awp_loopL (β := Abs.Own × AH) who [0, 1, 4, 9, 10, 11] (fun dn b => [(0, .sl (encI who) .free), (1, .int .i64 n), (4, .sl (encI (dn.filter lo)) b.1), (9, .sl (encI who) .free), (10, .int .i64 who.length), (11, .int .i64 dn.length)]) (fun b => h ++ b.2) (fun dn _ b => OwnAt h b.2 (dn.filter lo).length b.1) (.full, []) ?_ (by simp) trivial Ty.mixed (by kernel_rfl) ?_ ?_
  · simp (disch := omega) only [go_sem, seval, List.length_nil, List.filter_nil]
    rfl
  · rintro dn x r ⟨own, X⟩ hdn hown
    simp only at hown ⊢
    have hlen : who.length = dn.length + 1 + r.length := by rw [hdn]; simp; omega
    have e1 : (encI who)[dn.length]? = some (.int .i64 x) := by rw [hdn]; exact encI_get dn r x
    have hfl := len lo dn
    have hn : (dn ++ [x]).filter lo = dn.filter lo ++ (if x < n then [x] else []) := by
      rw [List.filter_append]; congr 1
      by_cases hx : x < n <;> simp [List.filter_cons, hlo, hx]
    simp (disch := omega) only [go_sem, seval, encI_len]
    refine aIf.pos (by omega) ?_
    simp (disch := omega) only [go_sem, seval, e1]
    refine aIf.intro (fun h1 => ?_) (fun h1 => ?_) <;> simp (disch := omega) only [go_sem, seval]
    · rw [if_pos h1] at hn
      have ei : [AV.int .i64 x] = encI [x] := rfl
      rw [ei]
      refine aAp_sl (by rw [encI_len]; exact hown) (rowsOK_I _) (rowsOK_I _) (by rw [encI_len]; simp [encI]; omega) (by rw [encI_len]; simp [encI]; omega) fun j' own' ho' hg => ?_
      simp (disch := omega) only [go_sem, seval]
      refine roundL_next (own', j') ?_ ?_ rfl
      · rw [hn]; simpa [encI_len] using ho'
      · simp (disch := omega) only [go_sem, seval, List.length_append, hn, encI, List.map_append]
    · rw [if_neg h1, List.append_nil] at hn
      refine roundL_next (own, X) ?_ ?_ rfl
      · rw [hn]; exact hown
      · simp (disch := omega) only [go_sem, seval, List.length_append, hn]
  · rintro ⟨own, X⟩ hown
    simp only at hown ⊢
    have hfl := len lo who
    simp (disch := omega) only [go_sem, seval, encI_len]
    refine AWP.keep [0, 1, 4] (aCode_ok Ty.mixed _ _ _ _ (by kernel_rfl) ?_)
    simp (disch := omega) only [go_sem, seval]
    have ei : [AV.int .i64 n] = encI [n] := rfl
    have ej : ∀ a b : List Int, encI a ++ encI b = encI (a ++ b) := fun a b => by simp [encI]
    rw [ei]
    refine aAp_sl (by rw [encI_len]; exact hown) (rowsOK_I _) (rowsOK_I _) (by rw [encI_len]; simp [encI]; omega) (by rw [encI_len]; simp [encI]; omega) fun j' own' ho' hg => ?_
    rw [ej]
    simp (disch := omega) only [go_sem, seval, encI_len]
    refine awp_loopL (β := Abs.Own × AH) who [1, 4, 27, 28, 29] (fun dn b => [(1, .int .i64 n), (4, .sl (encI (who.filter lo ++ [n] ++ dn.filter hi)) b.1), (27, .sl (encI who) .free), (28, .int .i64 who.length), (29, .int .i64 dn.length)]) (fun b => h ++ b.2) (fun dn _ b => OwnAt h b.2 (who.filter lo ++ [n] ++ dn.filter hi).length b.1) (own', j') ?_ rfl ?_ Ty.mixed (by kernel_rfl) ?_ ?_
    · simp (disch := omega) only [go_sem, seval, List.length_nil, List.filter_nil, List.append_nil]
    · simpa [encI_len] using ho'
    · rintro dn x r ⟨ow, X2⟩ hdn hown2
      simp only at hown2 ⊢
      have hlen : who.length = dn.length + 1 + r.length := by rw [hdn]; simp; omega
      have e1 : (encI who)[dn.length]? = some (.int .i64 x) := by rw [hdn]; exact encI_get dn r x
      have hfl2 := len hi dn
      have hn : (dn ++ [x]).filter hi = dn.filter hi ++ (if n < x then [x] else []) := by
        rw [List.filter_append]; congr 1
        by_cases hx : n < x <;> simp [List.filter_cons, hhi, hx]
      simp (disch := omega) only [go_sem, seval, encI_len]
      refine aIf.pos (by omega) ?_
      simp (disch := omega) only [go_sem, seval, e1]
      refine aIf.intro (fun h1 => ?_) (fun h1 => ?_) <;> simp (disch := omega) only [go_sem, seval]
      · rw [if_pos h1] at hn
        have ei : [AV.int .i64 x] = encI [x] := rfl
        rw [ei]
        have hb : (who.filter lo ++ [n] ++ dn.filter hi).length ≤ 5000 := by simp only [List.length_append, List.length_singleton]; omega
        refine aAp_sl (by rw [encI_len]; exact hown2) (rowsOK_I _) (rowsOK_I _) (by rw [encI_len, encI_len]; simp only [List.length_singleton]; omega) (by rw [encI_len, encI_len]; simp only [List.length_singleton]; omega) fun j2 own2 ho2 hg2 => ?_
        rw [ej]
        simp (disch := omega) only [go_sem, seval]
        refine roundL_next (own2, j2) ?_ ?_ rfl
        · rw [hn, ← List.append_assoc]
          rw [encI_len] at ho2
          rw [List.length_append]; simpa [encI] using ho2
        · simp (disch := omega) only [go_sem, seval, List.length_append, hn, List.append_assoc]
      · rw [if_neg (by omega), List.append_nil] at hn
        refine roundL_next (ow, X2) ?_ ?_ rfl
        · rw [hn]; exact hown2
        · simp (disch := omega) only [go_sem, seval, List.length_append, hn]
    · rintro ⟨ow, X2⟩ hown2
      simp only at hown2 ⊢
      simp (disch := omega) only [go_sem, seval, encI_len]
      refine AWP.keep [4] (aCode_ok Ty.mixed _ _ _ _ (by kernel_rfl) ?_)
      simp (disch := omega) only [go_sem, seval]
      rw [hd, List.append_assoc]; rfl
section
variable {P : Program} {Γ : Nat → Option (List AV)} {N : Nat} {σ : Tm} {h : AH} {Q : Exit → Tm → AH → Prop}
def cHl (l : List Hd) : List AV := [.sl (l.map encHd) .free]
theorem cHl_flat (hs : List (List Hd)) : hs.flatMap cHl = encHl hs := by
  induction hs with
  | nil => rfl
  | cons a l ih => rw [List.flatMap_cons, ih]; rfl
def cC (hs : List (List Hd)) (pad : List AV) (k : Nat) (a : AV) : List AV := (encHl hs ++ pad).set k a
theorem cC_drop {hs : List (List Hd)} {pad : List AV} {k : Nat} {a : AV} (hk : k < hs.length) : (cC hs pad k a).drop (0 + k * 1) = a :: (encHl hs ++ pad).drop (k + 1) := by
  have hl : k < (encHl hs ++ pad).length := by rw [List.length_append, encHl_len]; omega
  rw [cC, Nat.zero_add, Nat.mul_one, List.set_eq_take_append_cons_drop, if_pos hl, List.drop_left' (by rw [List.length_take]; omega)]
theorem cC_set {hs : List (List Hd)} {pad : List AV} {k : Nat} {a b : AV} : (cC hs pad k a).set (0 + k * 1) b = cC hs pad k b := by
  rw [cC, Nat.zero_add, Nat.mul_one, List.set_set]; rfl
theorem cC_set0 {hs : List (List Hd)} {pad : List AV} {k : Nat} {b : AV} : (encHl hs ++ pad).set (0 + k * 1) b = cC hs pad k b := by
  rw [cC, Nat.zero_add, Nat.mul_one]
theorem cC_len {hs : List (List Hd)} {pad : List AV} {k : Nat} {a : AV} : (cC hs pad k a).length = hs.length + pad.length := by
  rw [cC, List.length_set, List.length_append, encHl_len]
theorem fz_cut (i N c : Nat) (cs : List AV) (h1 : N ≤ cs.length) (h2 : N ≤ c) (h3 : ∀ a ∈ cs, a.isAgg = false) : fzV i cs (.ms i 0 N c 1) = .sl (cs.take N) .free := by
  have hok : fzOK cs 0 N c 1 = true := by
    simp only [fzOK, Bool.and_eq_true, decide_eq_true_eq, List.all_eq_true, Bool.not_eq_true']
    exact ⟨⟨⟨by omega, h2⟩, by decide⟩, h3⟩
  rw [fzV, if_pos ⟨rfl, hok⟩, List.drop_zero, rowsOf_one _ _ h1]
theorem cC_take {hs : List (List Hd)} {pad : List AV} {k : Nat} {a : AV} : (cC hs pad k a).take hs.length = (encHl hs).set k a := by
  rw [cC, List.take_set, List.take_left' (encHl_len hs)]
theorem cC_agg {hs : List (List Hd)} {pad : List AV} {k : Nat} {a : AV} (ha : a.isAgg = false) (hp : ∀ a ∈ pad, a.isAgg = false) : ∀ c ∈ cC hs pad k a, c.isAgg = false := fun c hc => by
  rcases List.mem_or_eq_of_mem_set hc with hc | rfl
  · rcases List.mem_append.1 hc with hc | hc
    · obtain ⟨l, _, rfl⟩ := List.mem_map.1 hc; rfl
    · exact hp c hc
  · exact ha
theorem loose_set (hs : List (List Hd)) (k : Nat) (l : List Hd) (own : Abs.Own) : looseL ((encHl hs).set k (.sl (l.map encHd) own)) = encHl (hs.set k l) := by
  rw [looseL_map, List.map_set, ← looseL_map, loose_HH, encHl, encHl, List.map_set]
  congr 1
  simp [loose, loose_Hs]
def gotN (kp : List Nat) (G : Tm → AH → Prop) : Exit → Tm → AH → Prop
  | .normal, σ, h => G (keep kp σ) h
  | _, _, _ => False
section
variable {kp : List Nat} {G : Tm → AH → Prop} {σ : Tm} {h : AH}
@[go_sem] theorem gotN_normal : gotN kp G .normal σ h = G (keep kp σ) h := (rfl)
end
theorem awp_got {P : Program} {Γ : Nat → Option (List AV)} {N : Nat} {σ : Tm} {h : AH} {Q : Exit → Tm → AH → Prop} {c d : Code} (kp : List Nat) (G : Tm → AH → Prop) (H : AWP P Γ N c (gotN kp G) σ h) (T : ∀ σ h, G σ h → AWP P Γ N d Q σ h) : AWP P Γ N (.seq c d) Q σ h :=
  awp_seq (H.mono fun e σ h he => by
    cases e with
    | normal => exact AWP.keep kp (T _ _ he)
    | _ => exact he.elim)
end
set_option maxHeartbeats 8000000 in
set_option maxRecDepth 100000 in
theorem permitsMore_calls (Γ : Nat → Option (List AV)) (hΓ : Γ 0 = some kindsC) (p : Pol) (kind value : Int) (hs : List (List Hd)) (who : List Int) (person office weight : Int) (h : AH) (hp : ShP p) (H : ShH hs) (hw : who.length ≤ 9223372036854775807) (b1 : 0 ≤ person ∧ person ≤ 255) (b2 : 0 ≤ office ∧ office ≤ 255) (b3 : 0 ≤ weight ∧ weight ≤ 255) :
    ACalls Tryd.prog Γ 6 [encPol p, .int .i64 kind, .int .i64 value, .sl (encHl hs) .free, .sl (encI who) .free, .int .u8 person, .int .u8 office, .int .u8 weight] h fun v h' => h' = h ∧ v = .bool true := by
  have c1 := fun h => right21_calls Γ p kind value hs who h hp H hw
  have hsz : fewF p hs = true → ∀ x ∈ exprs p, sizeX x ≤ 1000 := fun hf x hx => by have := (few_szs hf).1 x hx; omega
  have hrl : fewF p hs = true → p.rules.length ≤ 1000000 := fun hf => by have := (few_szs hf).2.1; omega
  have c2 := fun hs2 w h (hf : fewF p hs = true) (S : Szs hs2 w) => permits_calls Γ hΓ p kind value hs2 w h hp (hsz hf) (hrl hf) S
  have c3 := fun hs2 w h (hf : fewF p hs = true) (S : Szs hs2 w) => changes_calls Γ hΓ p hs2 w h hp (hsz hf) (hrl hf) S
  refine ACalls.drop ?_
  rw [encPol_eq] at *
  refine acalls_of_awp (rs := [.tmp 16]) Tryd.func6 rfl rfl rfl rfl ?_
  refine awp_seq (aCode_ok Ty.mixed _ _ _ _ (by kernel_rfl) ?_)
  simp (disch := omega) only [go_sem, seval]
  refine awp_seq (aCode_ok Ty.mixed _ _ _ _ (by kernel_rfl) ?_)
  simp (disch := omega) only [go_sem, seval]
  refine ACalls.det (sane21_calls Γ hΓ _) ?_
  simp (disch := omega) only [go_sem, seval]
  refine awp_seq (aCode_ok Ty.mixed _ _ _ _ (by kernel_rfl) ?_)
  simp (disch := omega) only [go_sem, seval]
  refine ACalls.det (c1 _) ?_
  cases h1 : rightF p kind value hs who <;> simp (disch := omega) only [go_sem, seval]
  obtain ⟨f1, f2, f3, f4, f5, f6⟩ := rightF_facts h1
  obtain ⟨r, hr, e1, hrm⟩ := rule_at f3 ⟨f4.1, f4.2.1⟩
  have c4 := fun h => c2 hs who h f1 (few_S f1 (by omega))
  have c5 := fun h => c3 hs who h f1 (few_S f1 (by omega))
  rw [perm_ok f3 ⟨f4.1, f4.2.1⟩ f4.2.2 f5 f6 hr, encB2] at c4
  rw [change_ok f3 f5 f6, encB2] at c5
  refine awp_seq (aCode_ok Ty.mixed _ _ _ _ (by kernel_rfl) ?_)
  simp (disch := omega) only [go_sem, seval]
  refine ACalls.det (c4 _) ?_
  simp (disch := omega) only [go_sem, seval]
  refine awp_seq (aCode_ok Ty.mixed _ _ _ _ (by kernel_rfl) ?_)
  simp (disch := omega) only [go_sem, seval]
  refine ACalls.det (c5 _) ?_
  simp (disch := omega) only [go_sem, seval]
  refine awp_seq (aCode_ok Ty.mixed _ _ _ _ (by kernel_rfl) ?_)
  simp (disch := omega) only [go_sem, seval]
  refine awp_seq (aCode_ok Ty.mixed _ _ _ _ (by kernel_rfl) ?_)
  simp (disch := omega) only [go_sem, seval]
  rw [Int.tmod_eq_emod_of_nonneg b1.1]
  obtain ⟨P, hP⟩ : ∃ P : Int, P = person % 64 := ⟨_, rfl⟩
  have hPb : 0 ≤ P ∧ P < 64 := by omega
  rw [← hP]
  refine ACalls.det (with21_calls Γ who P _ (by omega)) ?_
  simp (disch := omega) only [go_sem, seval]
  have hwl := people_len (with_people f6 hPb)
  have c6 := fun h => c2 hs (withF who P) h f1 (few_S f1 (by omega))
  have c7 := fun h => c3 hs (withF who P) h f1 (few_S f1 (by omega))
  rw [perm_ok f3 ⟨f4.1, f4.2.1⟩ f4.2.2 f5 (with_people f6 hPb) hr, encB2] at c6
  rw [change_ok f3 f5 (with_people f6 hPb), encB2] at c7
  have m1 : fulF value hs who r.x = true → fulF value hs (withF who P) r.x = true := ful_with f5
  have m2 : fulF 0 hs who p.change = true → fulF 0 hs (withF who P) p.change = true := ful_with f5
  have m3 := fun (k : Nat) (own : Hd) (hk : k < hs.length) (ho : 1 ≤ own.weight) => ful_further (v := value) (who := who) (x := r.x) f5 hk ho
  have m4 := fun (k : Nat) (own : Hd) (hk : k < hs.length) (ho : 1 ≤ own.weight) => ful_further (v := 0) (who := who) (x := p.change) f5 hk ho
  generalize fulF value hs who r.x = A at *
  generalize fulF 0 hs who p.change = B at *
  generalize fulF value hs (withF who P) r.x = A2 at *
  generalize fulF 0 hs (withF who P) p.change = B2 at *
  refine awp_seq (aCode_ok Ty.mixed _ _ _ _ (by kernel_rfl) ?_)
  simp (disch := omega) only [go_sem, seval]
  refine ACalls.det (c6 _) ?_
  simp (disch := omega) only [go_sem, seval]
  refine awp_seq (aCode_ok Ty.mixed _ _ _ _ (by kernel_rfl) ?_)
  simp (disch := omega) only [go_sem, seval]
  refine ACalls.det (c7 _) ?_
  simp (disch := omega) only [go_sem, seval]
  have hgo : (A && !A2) = false ∧ (B && !B2) = false := by
    refine ⟨?_, ?_⟩
    · cases A
      · rfl
      · rw [m1 rfl]; rfl
    · cases B
      · rfl
      · rw [m2 rfl]; rfl
  obtain ⟨K, hK⟩ : ∃ K : AH, K = h ++ [.row [.str ⟨⟨p.name⟩⟩, .sl (encT p.kinds) .free, .sl (encT p.offices) .free, .sl (p.rules.map encRl) .free, .int .i64 p.change.k, .int .i64 p.change.n, .int .i64 p.change.no, .str ⟨⟨p.change.name⟩⟩, .sl (p.change.l.map encX) .free, .int .i64 p.mode] 28] := ⟨_, rfl⟩
  rw [← hK]
  refine awp_got [1, 2, 3, 4, 5, 6, 7, 8, 17, 19] (fun σ hy => hy = K ∧ σ = [(1, .int .i64 kind), (2, .int .i64 value), (3, .sl (encHl hs) .free), (4, .sl (encI who) .free), (5, .int .u8 person), (6, .int .u8 office), (7, .int .u8 weight), (8, .ptr (some (h.length, 0))), (17, .bool A), (19, .bool B)]) (aCode_ok Ty.mixed _ _ _ _ (by kernel_rfl) ?_) ?_
  · simp (disch := omega) only [go_sem, seval]
    cases A
    · simp (disch := omega) only [go_sem, seval]
      cases B
      · simp (disch := omega) only [go_sem, seval]
      · rw [m2 rfl]
        simp (disch := omega) only [go_sem, seval]
    · rw [m1 rfl]
      simp (disch := omega) only [go_sem, seval]
      cases B
      · simp (disch := omega) only [go_sem, seval]
      · rw [m2 rfl]
        simp (disch := omega) only [go_sem, seval]
  · rintro σ0 hy ⟨g1, g2⟩
    rw [g1, g2]
    refine awp_seq (aCode_ok Ty.mixed _ _ _ _ (by kernel_rfl) ?_)
    simp (disch := omega) only [go_sem, seval, encHl_len]
    have hfz := few_szs f1
    have hf40 := hfz.2.2.1
    have hf70 := hfz.2.2.2.1
    refine aIf.intro (fun h2 => ?_) (fun h2 => ?_) <;> simp (disch := omega) only [go_sem, seval]
    · exact ⟨_, hK⟩
    refine awp_seq (aCode_ok Ty.mixed _ _ _ _ (by kernel_rfl) ?_)
    simp (disch := omega) only [go_sem, seval, encHl_len]
    refine ⟨by omega, ?_⟩
    rw [Int.tmod_eq_emod_of_nonneg b2.1]
    obtain ⟨k, hk⟩ : ∃ k : Nat, (k : Int) = office % hs.length := ⟨(office % hs.length).toNat, by have := Int.emod_nonneg office (b := (hs.length : Int)) (by omega); omega⟩
    have hkl : k < hs.length := by have := Int.emod_lt_of_pos office (b := (hs.length : Int)) (by omega); omega
    rw [← hk]
    refine AWP.mark2 (by decide) ?_
    refine awp_seq (aCode_ok Ty.mixed _ _ _ _ (by kernel_rfl) ?_)
    simp (disch := omega) only [go_sem, seval]
    have hne : hs ≠ [] := fun e => by rw [e] at hkl; cases hkl
    have hrl1 : RowsOK 1 (encHl hs) := rowsOK_HH hs
    have hflat : flat (encHl hs) = hs.flatMap cHl := by
      rw [flat, encHl, List.flatMap_map]; rfl
    rw [← List.append_nil K]
    refine aApM_C (enc := cHl) (n := 1) (by_ := 24) (l := []) (l2 := hs) (j := []) (q := 0) (fun _ => rfl) (by decide) (.inl ⟨rfl, rfl⟩) rfl hrl1 hflat (encHl_len hs) hne (by rw [List.length_nil, Nat.zero_add]; omega) (by rw [List.length_nil, Nat.zero_add]; omega) fun v' q' j' hv' _ _ _ _ => ?_
    rw [List.nil_append] at hv'
    obtain ⟨c, pad, rfl, hj, hc, hpad⟩ := hv'
    have hcr : cR cHl hs pad = encHl hs ++ pad := by rw [cR, cHl_flat]
    rw [hcr] at hj
    simp (disch := omega) only [go_sem, seval]
    refine AWP.keep [1, 2, 3, 4, 6, 5, 7, 8, 17, 19, 26, 27] ?_
    simp (disch := omega) only [go_sem, seval]
    have hjq := (List.getElem?_eq_some_iff.1 hj).1
    have hjj : j' = j'.take q' ++ .row (encHl hs ++ pad) 42 :: j'.drop (q' + 1) := by
      have h0 := (List.getElem?_eq_some_iff.1 hj).2
      have := List.take_append_drop q' j'
      rw [List.drop_eq_getElem_cons hjq, h0] at this
      exact this.symm
    obtain ⟨K2, hK2⟩ : ∃ K2 : AH, K2 = K ++ j'.take q' := ⟨_, rfl⟩
    obtain ⟨X0, hX0⟩ : ∃ X0 : AH, X0 = j'.drop (q' + 1) := ⟨_, rfl⟩
    have hK2l : K.length + q' = K2.length := by rw [hK2, List.length_append, List.length_take]; omega
    have hheap : K ++ j' = K2 ++ .row (encHl hs ++ pad) 42 :: X0 := by rw [hK2, hX0, List.append_assoc, ← hjj]
    rw [hheap, hK2l]
    clear hheap hjj hj
    have g8 : ∀ l, (K2 ++ l)[h.length]? = some (.row [.str ⟨⟨p.name⟩⟩, .sl (encT p.kinds) .free, .sl (encT p.offices) .free, .sl (p.rules.map encRl) .free, .int .i64 p.change.k, .int .i64 p.change.n, .int .i64 p.change.no, .str ⟨⟨p.change.name⟩⟩, .sl (p.change.l.map encX) .free, .int .i64 p.mode] 28) := fun l => by rw [hK2, hK]; simp
    have hK2h : ∀ l, ∃ l', K2 ++ l = h ++ l' := fun l => ⟨_, by rw [hK2, hK, List.append_assoc, List.append_assoc]⟩
    have hlt : h.length < K2.length := by rw [hK2, hK]; simp
    clear hK2 hK
    refine awp_seq (aCode_ok Ty.mixed _ _ _ _ (by kernel_rfl) ?_)
    simp (disch := omega) only [go_sem, seval]
    refine ⟨by omega, by rw [List.length_append, encHl_len]; omega, ?_⟩
    rw [cC_set0]
    refine awp_seq (aCode_ok Ty.mixed _ _ _ _ (by kernel_rfl) ?_)
    simp (disch := omega) only [go_sem, seval]
    refine awp_seq (aCode_ok Ty.mixed _ _ _ _ (by kernel_rfl) ?_)
    simp (disch := omega) only [go_sem, seval]
    rw [Int.tmod_eq_emod_of_nonneg b1.1, Int.tmod_eq_emod_of_nonneg b3.1, ← hP]
    obtain ⟨W, hW⟩ : ∃ W : Int, W = 1 + weight % 64 := ⟨_, rfl⟩
    have hWb : 1 ≤ W ∧ W ≤ 64 := by omega
    try rw [IntWalk.i64_in _ ⟨by omega, by omega⟩]
    rw [← hW]
    obtain ⟨X1, hX1⟩ : ∃ X1 : AH, X1 = X0 ++ [.row [.int .i64 P, .int .i64 W] 44] := ⟨_, rfl⟩
    try rw [← hX1]
    refine awp_seq (aCode_ok Ty.mixed _ _ _ _ (by kernel_rfl) ?_)
    simp (disch := omega) only [go_sem, seval]
    have e3 : (encHl hs)[k]? = some (.sl ((hs.getD k []).map encHd) .free) := by
      rw [encHl, List.getElem?_map, List.getD_eq_getElem?_getD, List.getElem?_eq_getElem hkl]; rfl
    have hlm : hs.getD k [] ∈ hs := by rw [List.getD_eq_getElem?_getD, List.getElem?_eq_getElem hkl]; exact List.getElem_mem hkl
    have hl70 := hf70 _ hlm
    have hsrt : SrtH (hs.getD k []) := by
      have := f5
      rw [holdersF, Bool.and_eq_true, List.all_eq_true] at this
      exact (line_facts (this.1 _ hlm)).2.1
    have hfur : furtherF hs k ⟨P, W⟩ = hs.set k (mergeF ⟨P, W⟩ (hs.getD k [])) := rfl
    rw [e3]
    generalize hs.getD k [] = l at *
    obtain ⟨ow, how⟩ : ∃ ow : Hd, ow = ⟨P, W⟩ := ⟨_, rfl⟩
    rw [← how] at hfur
    simp (disch := omega) only [go_sem, seval, List.length_map]
    have h29 : K2.length + (X0.length + 1) = K2.length + X1.length := by rw [hX1]; simp
    have g29 : ∀ a Z, (K2 ++ .row (cC hs pad k a) 42 :: (X1 ++ Z))[K2.length + X1.length]? = some (.row [.int .i64 P, .int .i64 W] 44) := fun a Z => by
      rw [hX1, show K2 ++ AObj.row (cC hs pad k a) 42 :: (X0 ++ [.row [.int .i64 P, .int .i64 W] 44] ++ Z) = (K2 ++ AObj.row (cC hs pad k a) 42 :: X0) ++ .row [.int .i64 P, .int .i64 W] 44 :: Z from by simp]
      exact mid_get _ _ _ _ (by simp)
    try rw [h29]
    refine awp_loopL (β := List Hd × Bool × Abs.Own × AH) l [1, 2, 3, 4, 8, 17, 19, 26, 27, 28, 29, 129, 130, 131] (fun dn b => [(1, .int .i64 kind), (2, .int .i64 value), (3, .sl (encHl hs) .free), (4, .sl (encI who) .free), (8, .ptr (some (h.length, 0))), (17, .bool A), (19, .bool B), (26, .int .i64 k), (27, .ms K2.length 0 hs.length c 1), (28, .bool b.2.1), (29, .ptr (some (K2.length + X1.length, 0))), (129, .sl (l.map encHd) .free), (130, .int .i64 l.length), (131, .int .i64 dn.length)]) (fun b => K2 ++ .row (cC hs pad k (.sl (b.1.map encHd) b.2.2.1)) 42 :: (X1 ++ b.2.2.2)) (fun dn _ b => bldF ow dn = (b.1, b.2.1) ∧ OwnAt (K2 ++ .hole :: X1) b.2.2.2 b.1.length b.2.2.1) ([], false, .full, []) ?_ ?_ ⟨rfl, trivial⟩ Ty.mixed (by kernel_rfl) ?_ ?_
    · simp (disch := omega) only [go_sem, seval, List.length_nil]
    · simp
    · rintro dn y r2 ⟨D, met, own, Z⟩ hdn ⟨hD, hown⟩
      simp only at hD hown ⊢
      have hlen : l.length = dn.length + 1 + r2.length := by rw [hdn]; simp; omega
      have e4 : (l.map encHd)[dn.length]? = some (encHd y) := by rw [hdn]; exact rowMid ..
      rw [encHd] at e4
      obtain ⟨q1, q2, q3⟩ := bld_step (own := ow) (dn := dn) (r := r2) (y := y) (by rw [← hdn]; exact hsrt)
      rw [hD] at q1 q2 q3
      have hDl : D.length ≤ dn.length + 1 := by have := bld_len ow dn; rw [hD] at this; exact this
      simp (disch := omega) only [go_sem, seval, List.length_map]
      refine aIf.pos (by omega) ?_
      simp (disch := omega) only [go_sem, seval, e4, g29]
      obtain ⟨N, hN⟩ : ∃ N, N = K2.length + (X1.length + Z.length + 1) := ⟨_, rfl⟩
      have g31 : ∀ a (o : AObj), (K2 ++ .row (cC hs pad k a) 42 :: (X1 ++ (Z ++ [o])))[N]? = some o := fun a o => by
        rw [hN, show K2 ++ AObj.row (cC hs pad k a) 42 :: (X1 ++ (Z ++ [o])) = (K2 ++ AObj.row (cC hs pad k a) 42 :: (X1 ++ Z)) ++ o :: [] from by simp]
        exact mid_get _ _ _ _ (by simp)
      have s31 : ∀ a (o o2 : AObj), (K2 ++ .row (cC hs pad k a) 42 :: (X1 ++ (Z ++ [o]))).set N o2 = K2 ++ .row (cC hs pad k a) 42 :: (X1 ++ (Z ++ [o2])) := fun a o o2 => by
        have e : ∀ o : AObj, K2 ++ AObj.row (cC hs pad k a) 42 :: (X1 ++ (Z ++ [o])) = (K2 ++ AObj.row (cC hs pad k a) 42 :: (X1 ++ Z)) ++ [o] := fun o => by simp
        have hl : N = (K2 ++ AObj.row (cC hs pad k a) 42 :: (X1 ++ Z)).length := by rw [hN]; simp
        rw [e, e, hl, List.set_append_right _ _ (Nat.le_refl _), Nat.sub_self]; rfl
      have G31 : ∀ a (Z' : AH) (o : AObj), Z'[Z.length]? = some o → (K2 ++ .row (cC hs pad k a) 42 :: (X1 ++ Z'))[N]? = some o := fun a Z' o e => by
        rw [hN, show K2 ++ AObj.row (cC hs pad k a) 42 :: (X1 ++ Z') = (K2 ++ AObj.row (cC hs pad k a) 42 :: X1) ++ Z' from by simp, List.getElem?_append_right (by simp)]
        rw [show K2.length + (X1.length + Z.length + 1) - (K2 ++ AObj.row (cC hs pad k a) 42 :: X1).length = Z.length by simp; omega]
        exact e
      have eR : ∀ (o : AObj) (L : AH), K2 ++ o :: (X1 ++ L) = (K2 ++ o :: X1) ++ L := fun o L => by simp
      try rw [← hN]
      refine aIf.intro (fun h5 => ?_) (fun h5 => ?_) <;> simp (disch := omega) only [go_sem, seval, g29, g31, s31]
      · obtain ⟨qa, qb⟩ := q2 (by rw [how]; exact h5)
        cases qa
        refine aIf.neg (by omega) ?_
        simp (disch := omega) only [go_sem, seval, g29, g31, s31]
        refine ⟨by omega, ?_⟩
        rw [cC_drop hkl]
        simp (disch := omega) only [go_sem, seval, g29, g31]
        have el1 : (dn).map encHd ++ ([(⟨y.person, max y.weight ow.weight⟩ : Hd)]).map encHd = (dn ++ [(⟨y.person, max y.weight ow.weight⟩ : Hd)]).map encHd := by simp
        rw [show [AV.agg [.int .i64 y.person, .int .i64 (if y.weight < W then W else y.weight)]] = ([(⟨y.person, max y.weight ow.weight⟩ : Hd)]).map encHd from by rw [how, show max y.weight W = (if y.weight < W then W else y.weight) from by split <;> omega]; rfl, eR]
        refine aAp_sl (by rw [List.length_map]; exact OwnAt.len (hown.app _) (by simp)) (rowsOK_H _) (rowsOK_H _) (by simp only [List.length_map, List.length_singleton]; omega) (by simp only [List.length_map, List.length_singleton]; omega) fun j1 own1 ho1 hg1 => ?_
        rw [el1, ← eR]
        simp (disch := omega) only [go_sem, seval, g29, g31]
        refine ⟨by omega, by rw [cC_len]; omega, ?_⟩
        rw [cC_set]
        refine roundL_next (dn ++ [⟨y.person, max y.weight ow.weight⟩], true, own1, j1) ⟨qb, ?_⟩ ?_ rfl
        · refine OwnAt.len (K := K2 ++ .row (cC hs pad k (.sl (dn.map encHd) own)) 42 :: X1) ?_ (by simp)
          simpa using ho1
        · simp (disch := omega) only [go_sem, seval, List.length_append]
      refine aIf.intro (fun h6 => ?_) (fun h6 => ?_) <;> simp (disch := omega) only [go_sem, seval, g29, g31, s31]
      rotate_left
      · obtain ⟨qa, qb⟩ := q1 (by rw [how]; show y.person < P; omega)
        cases qa
        refine ⟨by omega, ?_⟩
        rw [cC_drop hkl]
        simp (disch := omega) only [go_sem, seval, g29, g31]
        have el1 : (dn).map encHd ++ ([y]).map encHd = (dn ++ [y]).map encHd := by simp
        rw [show [AV.agg [.int .i64 y.person, .int .i64 y.weight]] = ([y]).map encHd from rfl, eR]
        refine aAp_sl (by rw [List.length_map]; exact OwnAt.len (hown.app _) (by simp)) (rowsOK_H _) (rowsOK_H _) (by simp only [List.length_map, List.length_singleton, List.length_append]; omega) (by simp only [List.length_map, List.length_singleton, List.length_append]; omega) fun j1 own1 ho1 hg1 => ?_
        rw [el1, ← eR]
        simp (disch := omega) only [go_sem, seval, g29, g31]
        refine ⟨by omega, by rw [cC_len]; omega, ?_⟩
        rw [cC_set]
        refine roundL_next (dn ++ [y], false, own1, j1) ⟨qb, ?_⟩ ?_ rfl
        · refine OwnAt.len (K := K2 ++ .row (cC hs pad k (.sl ((dn).map encHd) own)) 42 :: X1) ?_ (by simp)
          simpa using ho1
        · simp (disch := omega) only [go_sem, seval, List.length_append]
      · have q3 := q3 (by rw [how]; exact h6)
        cases met
        · simp (disch := omega) only [go_sem, seval, g29, g31]
          refine ⟨by omega, ?_⟩
          rw [cC_drop hkl]
          simp (disch := omega) only [go_sem, seval, g29, g31]
          have el1 : (D).map encHd ++ ([ow]).map encHd = (D ++ [ow]).map encHd := by simp
          rw [show [AV.agg [.int .i64 P, .int .i64 W]] = ([ow]).map encHd from by rw [how]; rfl, eR]
          refine aAp_sl (by rw [List.length_map]; exact OwnAt.len (hown.app _) (by simp)) (rowsOK_H _) (rowsOK_H _) (by simp only [List.length_map, List.length_singleton, List.length_append]; omega) (by simp only [List.length_map, List.length_singleton, List.length_append]; omega) fun j1 own1 ho1 hg1 => ?_
          rw [el1, ← eR]
          simp (disch := omega) only [go_sem, seval, g29, g31]
          refine ⟨by omega, by rw [cC_len]; omega, ?_⟩
          rw [cC_set]
          have gy : j1[Z.length]? = some (.row [.int .i64 y.person, .int .i64 y.weight] 44) := hg1.2 _ _ (by simp) (fun n e => by cases e)
          refine ⟨by omega, ?_⟩
          rw [cC_drop hkl]
          simp (disch := omega) only [go_sem, seval, g29, G31 _ _ _ gy]
          have el2 : (D ++ [ow]).map encHd ++ ([y]).map encHd = (D ++ [ow] ++ [y]).map encHd := by simp
          rw [show [AV.agg [.int .i64 y.person, .int .i64 y.weight]] = ([y]).map encHd from rfl, eR]
          refine aAp_sl (by rw [List.length_map]; refine OwnAt.len (K := K2 ++ .row (cC hs pad k (.sl (D.map encHd) own)) 42 :: X1) ?_ (by simp); simpa using ho1) (rowsOK_H _) (rowsOK_H _) (by simp only [List.length_map, List.length_singleton, List.length_append]; omega) (by simp only [List.length_map, List.length_singleton, List.length_append]; omega) fun j2 own2 ho2 hg2 => ?_
          rw [el2, ← eR]
          simp (disch := omega) only [go_sem, seval, g29, G31 _ _ _ gy]
          refine ⟨by omega, by rw [cC_len]; omega, ?_⟩
          rw [cC_set]
          refine roundL_next (D ++ [ow] ++ [y], true, own2, j2) ⟨by rw [q3]; rfl, ?_⟩ ?_ rfl
          · refine OwnAt.len (K := K2 ++ .row (cC hs pad k (.sl ((D ++ [ow]).map encHd) own1)) 42 :: X1) ?_ (by simp)
            simpa [List.append_assoc] using ho2
          · simp (disch := omega) only [go_sem, seval, List.length_append]
        · simp (disch := omega) only [go_sem, seval, g29, g31]
          refine ⟨by omega, ?_⟩
          rw [cC_drop hkl]
          simp (disch := omega) only [go_sem, seval, g29, g31]
          have el1 : (D).map encHd ++ ([y]).map encHd = (D ++ [y]).map encHd := by simp
          rw [show [AV.agg [.int .i64 y.person, .int .i64 y.weight]] = ([y]).map encHd from rfl, eR]
          refine aAp_sl (by rw [List.length_map]; exact OwnAt.len (hown.app _) (by simp)) (rowsOK_H _) (rowsOK_H _) (by simp only [List.length_map, List.length_singleton, List.length_append]; omega) (by simp only [List.length_map, List.length_singleton, List.length_append]; omega) fun j1 own1 ho1 hg1 => ?_
          rw [el1, ← eR]
          simp (disch := omega) only [go_sem, seval, g29, g31]
          refine ⟨by omega, by rw [cC_len]; omega, ?_⟩
          rw [cC_set]
          refine roundL_next (D ++ [y], true, own1, j1) ⟨by rw [q3]; simp, ?_⟩ ?_ rfl
          · refine OwnAt.len (K := K2 ++ .row (cC hs pad k (.sl ((D).map encHd) own)) 42 :: X1) ?_ (by simp)
            simpa using ho1
          · simp (disch := omega) only [go_sem, seval, List.length_append]
    · rintro ⟨D, met, own, Z⟩ ⟨hD, hown⟩
      simp only at hD hown ⊢
      have hDl : D.length ≤ l.length + 1 := by have := bld_len ow l; rw [hD] at this; exact this
      have hbe := bld_end (own := ow) (l := l)
      have hbf := bld_fin (own := ow) (l := l)
      rw [hD] at hbe hbf
      simp only at hbe hbf
      have eR : ∀ (o : AObj) (L : AH), K2 ++ o :: (X1 ++ L) = (K2 ++ o :: X1) ++ L := fun o L => by simp
      simp (disch := omega) only [go_sem, seval, List.length_map]
      refine awp_got [1, 2, 4, 8, 17, 19, 27] (fun σ hy => ∃ own2 Z2, hy = K2 ++ .row (cC hs pad k (.sl ((mergeF ow l).map encHd) own2)) 42 :: (X1 ++ Z2) ∧ σ = [(1, .int .i64 kind), (2, .int .i64 value), (4, .sl (encI who) .free), (8, .ptr (some (h.length, 0))), (17, .bool A), (19, .bool B), (27, .ms K2.length 0 hs.length c 1)]) (aCode_ok Ty.mixed _ _ _ _ (by kernel_rfl) ?_) ?_
      · simp (disch := omega) only [go_sem, seval]
        cases met
        · simp (disch := omega) only [go_sem, seval, g29]
          refine ⟨by omega, ?_⟩
          rw [cC_drop hkl]
          simp (disch := omega) only [go_sem, seval, g29]
          have el1 : (D).map encHd ++ ([ow]).map encHd = (D ++ [ow]).map encHd := by simp
          rw [show [AV.agg [.int .i64 P, .int .i64 W]] = ([ow]).map encHd from by rw [how]; rfl, eR]
          refine aAp_sl (by rw [List.length_map]; exact OwnAt.len (hown) (by simp)) (rowsOK_H _) (rowsOK_H _) (by simp only [List.length_map, List.length_singleton, List.length_append]; omega) (by simp only [List.length_map, List.length_singleton, List.length_append]; omega) fun j1 own1 ho1 hg1 => ?_
          rw [el1, ← eR]
          simp (disch := omega) only [go_sem, seval, g29]
          refine ⟨by omega, by rw [cC_len]; omega, ?_⟩
          rw [cC_set]
          exact ⟨own1, j1, by rw [hbe rfl]⟩
        · simp (disch := omega) only [go_sem, seval]
          exact ⟨own, Z, by rw [hbf rfl]⟩
      · rintro σ1 hy1 ⟨own2, Z2, g3, g4⟩
        rw [g3, g4]
        have hgf : (K2 ++ AObj.row (cC hs pad k (.sl ((mergeF ow l).map encHd) own2)) 42 :: (X1 ++ Z2))[K2.length]? = some (.row (cC hs pad k (.sl ((mergeF ow l).map encHd) own2)) 42) := by simp
        refine AWP.freeze hgf (Froze.set hgf) ?_
        simp only [List.map_cons, List.map_nil]
        rw [fz_cut K2.length hs.length c _ (by rw [cC_len]; omega) (by omega) (cC_agg rfl hpad), cC_take, fz_ptr (by omega)]
        simp only [fzV, fz_I]
        have hset : (K2 ++ AObj.row (cC hs pad k (.sl ((mergeF ow l).map encHd) own2)) 42 :: (X1 ++ Z2)).set K2.length .frozen = K2 ++ .frozen :: (X1 ++ Z2) := by simp
        rw [hset]
        have hpo : 0 ≤ ow.person ∧ ow.person < 64 := by rw [how]; exact hPb
        have hwo : 1 ≤ ow.weight ∧ ow.weight ≤ 64 := by rw [how]; exact hWb
        have hfo := further_holders f5 hkl hpo hwo
        have hlo := loose_set hs k (mergeF ow l) own2
        rw [← hfur] at hlo
        have hSz : Szs (furtherF hs k ow) who := ⟨by rw [furtherF, List.length_set]; omega, fun l2 hl2 => by
          have := hfo
          rw [holdersF, Bool.and_eq_true, List.all_eq_true] at this
          have := (line_facts (this.1 l2 hl2)).2.2.2
          omega, by omega⟩
        have c8 := fun h => c2 (furtherF hs k ow) who h f1 hSz
        have c9 := fun h => c3 (furtherF hs k ow) who h f1 hSz
        rw [perm_ok f3 ⟨f4.1, f4.2.1⟩ f4.2.2 hfo f6 hr, encB2] at c8
        rw [change_ok f3 hfo f6, encB2] at c9
        have m5 := m3 k ow hkl hwo.1
        have m6 := m4 k ow hkl hwo.1
        generalize fulF value (furtherF hs k ow) who r.x = A3 at *
        generalize fulF 0 (furtherF hs k ow) who p.change = B3 at *
        refine awp_seq (aCode_ok Ty.mixed _ _ _ _ (by kernel_rfl) ?_)
        simp (disch := omega) only [go_sem, seval, g8]
        refine ACalls.ofLoose (ACalls.det (c8 _) ?_) (by simp only [looseL, loose, loose_T, loose_Rs, loose_Xs, loose_I, hlo])
        simp (disch := omega) only [go_sem, seval]
        refine awp_seq (aCode_ok Ty.mixed _ _ _ _ (by kernel_rfl) ?_)
        simp (disch := omega) only [go_sem, seval, g8]
        refine ACalls.ofLoose (ACalls.det (c9 _) ?_) (by simp only [looseL, loose, loose_T, loose_Rs, loose_Xs, loose_I, hlo])
        simp (disch := omega) only [go_sem, seval]
        refine aCode_ok Ty.mixed _ _ _ _ (by kernel_rfl) ?_
        obtain ⟨l', hl'⟩ := hK2h (.frozen :: (X1 ++ Z2))
        cases A
        · cases B
          · simp (disch := omega) only [go_sem, seval]
            exact ⟨_, hl'⟩
          · rw [m6 rfl]
            simp (disch := omega) only [go_sem, seval]
            exact ⟨_, hl'⟩
        · rw [m5 rfl]
          cases B
          · simp (disch := omega) only [go_sem, seval]
            exact ⟨_, hl'⟩
          · rw [m6 rfl]
            simp (disch := omega) only [go_sem, seval]
            exact ⟨_, hl'⟩
end Go.Proofs.YtmdiebdplakccaaDoor
