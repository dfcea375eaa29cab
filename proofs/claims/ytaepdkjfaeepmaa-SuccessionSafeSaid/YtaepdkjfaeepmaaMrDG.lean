/- Texts joined: SucV, SucW. No conditions. -/
import Derived.Test.YtaepdkjfaeepmaaMrDF
/- The program's ways: what the iterator yields. No conditions. -/
set_option linter.unusedSimpArgs false
set_option linter.unusedVariables false
namespace Go.Proofs.Ytaepdkjfaeepmaa
open Go Go.Proofs Go.Abs

structure Wy where
  x : Sg
  t : Nat
  c : Int
def encWy (w : Wy) : AV := .agg [.int .i64 w.x.kind, .int .i64 w.x.person, .int .u64 w.t, .int .i64 w.c]
def fW (s : Es) (m : Nat) (x : Sg) : Option Wy := if (stepF s m x).1 < 0 then none else some ⟨x, (stepF s m x).1.toNat, (stepF s m x).2⟩
def wayL (s : Es) (m : Nat) : List Wy := (stagesL s).filterMap (fW s m)
theorem xor_bit2 : ∀ a b : Fin 32, ∀ i : Fin 10, (32 * a.val + b.val) ^^^ 2 ^ i.val = if (32 * a.val + b.val).testBit i.val = true then (32 * a.val + b.val) - 2 ^ i.val else (32 * a.val + b.val) + 2 ^ i.val := by decide +kernel
theorem xor_bit {m i : Nat} (hm : m < 1024) (hi : i < 10) : m ^^^ 2 ^ i = if m.testBit i = true then m - 2 ^ i else m + 2 ^ i := by
  have := xor_bit2 ⟨m / 32, by omega⟩ ⟨m % 32, by omega⟩ ⟨i, hi⟩
  simp only [Nat.div_add_mod] at this
  exact this
theorem way_of {s : Es} (hs : HsOK s) {m i : Nat} (hm : m < 2 ^ s.heirs.length) (hi : i < s.heirs.length) :
    fW s m ⟨1, (hrAt s i).person⟩ = (if m.testBit i = true then none else some ⟨⟨1, (hrAt s i).person⟩, m ^^^ 2 ^ i, (hrAt s i).join⟩) ∧ fW s m ⟨2, (hrAt s i).person⟩ = (if m.testBit i = true then some ⟨⟨2, (hrAt s i).person⟩, m ^^^ 2 ^ i, (hrAt s i).leave⟩ else none) := by
  have he : heirI s.heirs (hrAt s i).person = i := heirI_at hs.srt hi
  have hc : ∀ i : Nat, (2 : Int) ^ i = ((2 ^ i : Nat) : Int) := fun i => by rw [Int.natCast_pow]; rfl
  have e1 : stepF s m ⟨1, (hrAt s i).person⟩ = if m.testBit i = true then ((-1 : Int), (0 : Int)) else (((m + 2 ^ i : Nat) : Int), (hrAt s i).join) := by
    unfold stepF
    simp only
    rw [he, if_neg (by omega), Int.toNat_natCast]
    cases m.testBit i <;> simp
  have e2 : stepF s m ⟨2, (hrAt s i).person⟩ = if m.testBit i = true then (((m - 2 ^ i : Nat) : Int), (hrAt s i).leave) else ((-1 : Int), (0 : Int)) := by
    unfold stepF
    simp only
    rw [he, if_neg (by omega), Int.toNat_natCast]
    cases hb : m.testBit i <;> simp
    have := leave_ge hb
    rw [hc]; omega
  unfold fW
  have h10 := hs.h10
  rw [e1, e2, xor_bit (hs.small hm) (by omega)]
  generalize m + 2 ^ i = u
  generalize m - 2 ^ i = w
  cases m.testBit i <;> simp
theorem bit_get (m i : Nat) (hm : m < 18446744073709551616) (hi : i < 64) : bitsOp .and .u64 ((m : Int).fdiv (2 ^ min i 64)) 1 = if m.testBit i = true then 1 else 0 := by
  have e : (m : Int).fdiv (2 ^ min i 64) = ((m / 2 ^ i : Nat) : Int) := by
    rw [show min i 64 = i by omega, Int.fdiv_eq_ediv_of_nonneg _ (by exact_mod_cast Nat.zero_le _), show ((2 : Int) ^ i) = ((2 ^ i : Nat) : Int) by norm_cast]
    norm_cast
  rw [e]
  have := bits_and (m / 2 ^ i) 1 (Nat.lt_of_le_of_lt (Nat.div_le_self _ _) hm)
  rw [show (1 : Int) = ((1 : Nat) : Int) from rfl, this, Nat.and_one_is_mod, Nat.testBit_eq_decide_div_mod_eq]
  have h2 : m / 2 ^ i % 2 < 2 := Nat.mod_lt _ (by decide)
  generalize m / 2 ^ i % 2 = q at *
  match q, h2 with
  | 0, _ => rfl
  | 1, _ => rfl
theorem pways_calls (Γ : Nat → Option (List AV)) (i m : Nat) (h : AH) :
    ACalls Try.prog Γ 30 [.ptr (some (i, 0)), .int .u64 m] h fun v h' => h' = h ++ [.row [.ptr (some (i, 0))] 92, .row [.int .u64 m] 58] ∧ v = .func 50 [] [.ptr (some (h.length, 0)), .ptr (some (h.length + 1, 0))] := by
  refine acalls_code (rs := [.tmp 4]) Try.func30 rfl rfl rfl rfl Ty.mixed (by kernel_rfl) ?_
  simp (disch := omega) only [go_sem, seval]
set_option maxHeartbeats 4000000 in
set_option maxRecDepth 100000 in
theorem ways1_calls (Γ : Nat → Option (List AV)) (s : Es) (m i a b L : Nat) (hs : HsOK s) (hm : m < 2 ^ s.heirs.length) (T1 T2 : TypeId) (I : List Wy → AH → Prop) (S : AH → Prop)
    (H0 : ∀ don h, I don h → h[i]? = some (.row (hsC s) 61) ∧ h[a]? = some (.row [.ptr (some (i, 0))] T1) ∧ h[b]? = some (.row [.int .u64 m] T2))
    (HA : ∀ don h cs, I don h → I don (h ++ [.row cs 50]))
    (HY : ∀ don x r h, wayL s m = don ++ x :: r → I don h → AYield Try.prog Γ L [encWy x] h fun v h' => (v = .bool true ∧ I (don ++ [x]) h') ∨ (v = .bool false ∧ S h'))
    (h0 : AH) (hI : I [] h0) :
    ACalls Try.prog Γ 50 [.yield L, .ptr (some (a, 0)), .ptr (some (b, 0))] h0 fun _ h' => I (wayL s m) h' ∨ S h' := by
  have hm1 := hs.small hm
  have h10 := hs.h10
  refine acalls_code (rs := []) Try.func50 rfl rfl rfl rfl Ty.mixed (by kernel_rfl) ?_
  simp (disch := omega) only [go_sem, seval]
  refine awp_loopL (β := AH) ([1, 2] : List Int) [0, 1, 2, 9, 10, 11] (fun don _ => [(0, .yield L), (1, .ptr (some (a, 0))), (2, .ptr (some (b, 0))), (9, .sl (encI [1, 2]) .full), (10, .int .i64 2), (11, .int .i64 don.length)]) id
    (fun don _ h => I ((don.flatMap fun k => s.heirs.map fun x => (⟨k, x.person⟩ : Sg)).filterMap (fW s m)) h) h0 ?_ rfl hI Ty.mixed (by kernel_rfl) ?_ ?_
  · simp (disch := omega) only [go_sem, seval, List.length_nil]
    rfl
  · rintro don k r h hd hIh
    simp only [id] at hIh ⊢
    have hk : k = (don.length : Int) + 1 ∧ don.length ≤ 1 := by
      rcases don with _ | ⟨a, _ | ⟨b, don⟩⟩
      · cases hd; exact ⟨by simp, by simp⟩
      · cases hd; exact ⟨by simp, by simp⟩
      · have := congrArg List.length hd
        simp at this
    have e1 : (encI [1, 2])[don.length]? = some (.int .i64 k) := by
      rw [show ([1, 2] : List Int) = don ++ k :: r from hd]; exact encI_at don r k
    obtain ⟨g1, g2, g3⟩ := H0 _ _ hIh
    simp only [hsC] at g1
    simp (disch := omega) only [go_sem, seval, encI_len]
    refine aIf.pos (by omega) ?_
    simp (disch := omega) only [go_sem, seval, e1, g1, g2, encHs_len]
    have hst : stagesL s = (don ++ k :: r).flatMap fun k => s.heirs.map fun x => (⟨k, x.person⟩ : Sg) := by rw [← hd]; simp [stagesL]
    refine awp_loopV s.heirs [0, 1, 2, 5, 9, 10, 11, 18, 19, 20] (fun don2 => [(0, .yield L), (1, .ptr (some (a, 0))), (2, .ptr (some (b, 0))), (5, .int .i64 k), (9, .sl (encI [1, 2]) .full), (10, .int .i64 2), (11, .int .i64 don.length), (18, .sl (encHs s.heirs) .free), (19, .int .i64 s.heirs.length), (20, .int .i64 don2.length)])
      (fun don2 _ h => I ((don.flatMap fun k => s.heirs.map fun x => (⟨k, x.person⟩ : Sg)).filterMap (fW s m) ++ (don2.map fun x => (⟨k, x.person⟩ : Sg)).filterMap (fW s m)) h) ?_ (by simpa using hIh) ?_ ?_
    · simp (disch := omega) only [go_sem, seval, List.length_nil]
    · rintro don2 x r2 h hd2 hIh
      have hlen : s.heirs.length = don2.length + 1 + r2.length := by rw [hd2]; simp; omega
      have e2 : (encHs s.heirs)[don2.length]? = some (encH x) := by rw [hd2]; exact encHs_get don2 r2 x
      have hxr : hrAt s don2.length = x := by rw [hrAt, List.getD_eq_getElem?_getD, hd2]; simp
      have hway := way_of hs hm (show don2.length < s.heirs.length by omega)
      rw [hxr] at hway
      have hIh2 := HA _ _ (encH x).cells hIh
      obtain ⟨g1, g2, g3⟩ := H0 _ _ hIh2
      simp only [encH, AV.cells] at e2 hIh2 g1 g2 g3
      refine awp_seq (aCode_ok Ty.mixed _ _ _ _ (by kernel_rfl) ?_)
      simp (disch := omega) only [go_sem, seval]
      refine awp_seq (aCode_ok Ty.mixed _ _ _ _ (by kernel_rfl) ?_)
      simp (disch := omega) only [go_sem, seval]
      refine aIf.pos (by omega) ?_
      simp (disch := omega) only [go_sem, seval]
      refine awp_seq (awp_block ?_)
      refine awp_seq (aCode_ok Ty.mixed _ _ _ _ (by kernel_rfl) ?_)
      simp (disch := omega) only [go_sem, seval, e2]
      have hbg := bit_get m don2.length (by omega) (by omega)
      have hsl := shl_one don2.length (by omega)
      have hxo := (bits_xor m (2 ^ don2.length) (by omega) (by have : 2 ^ don2.length < 2 ^ 64 := Nat.pow_lt_pow_right (by decide) (by omega); exact this)).1
      have hfm : ∀ k : Int, ((don2 ++ [x]).map fun x => (⟨k, x.person⟩ : Sg)).filterMap (fW s m) = (don2.map fun x => (⟨k, x.person⟩ : Sg)).filterMap (fW s m) ++ (fW s m ⟨k, x.person⟩).toList := fun k => by
        rw [List.map_append, List.filterMap_append]
        congr 1
      have hsplit : ∀ w, fW s m ⟨k, x.person⟩ = some w → ∃ r', wayL s m = ((don.flatMap fun k => s.heirs.map fun x => (⟨k, x.person⟩ : Sg)).filterMap (fW s m) ++ (don2.map fun x => (⟨k, x.person⟩ : Sg)).filterMap (fW s m)) ++ w :: r' := fun w hw => by
        refine ⟨(r2.map fun x => (⟨k, x.person⟩ : Sg)).filterMap (fW s m) ++ (r.flatMap fun k => s.heirs.map fun x => (⟨k, x.person⟩ : Sg)).filterMap (fW s m), ?_⟩
        rw [wayL, hst, List.flatMap_append, List.flatMap_cons, List.filterMap_append, List.filterMap_append]
        conv => lhs; rw [hd2]
        rw [List.map_append, List.map_cons, List.filterMap_append, List.filterMap_cons_some hw]
        simp [← hd2]
      refine awp_seq (aCode_ok Ty.mixed _ _ _ _ (by kernel_rfl) ?_)
      simp (disch := omega) only [go_sem, seval]
      refine awp_seq (aCode_ok Ty.mixed _ _ _ _ (by kernel_rfl) ?_)
      simp (disch := omega) only [go_sem, seval]
      refine aIf.intro (fun h2 => ?_) (fun h2 => ?_) <;> simp (disch := omega) only [go_sem, seval]
      · have hk1 : k = 2 := by omega
        subst hk1
        refine AWP.keep [0, 1, 2, 5, 6, 7, 8, 9, 10, 11, 18, 19, 20] ?_
        simp (disch := omega) only [go_sem, seval]
        refine awp_only [0, 1, 2, 5, 9, 10, 11, 18, 19, 20, 53] (fun σ hx => (σ = [(0, .yield L), (1, .ptr (some (a, 0))), (2, .ptr (some (b, 0))), (5, .int .i64 2), (9, .sl (encI [1, 2]) .full), (10, .int .i64 2), (11, .int .i64 don.length), (18, .sl (encHs s.heirs) .free), (19, .int .i64 s.heirs.length), (20, .int .i64 don2.length), (53, .bool false)] ∧ I ((don.flatMap fun k => s.heirs.map fun x => (⟨k, x.person⟩ : Sg)).filterMap (fW s m) ++ ((don2 ++ [x]).map fun x => (⟨2, x.person⟩ : Sg)).filterMap (fW s m)) hx) ∨ (σ = [(0, .yield L), (1, .ptr (some (a, 0))), (2, .ptr (some (b, 0))), (5, .int .i64 2), (9, .sl (encI [1, 2]) .full), (10, .int .i64 2), (11, .int .i64 don.length), (18, .sl (encHs s.heirs) .free), (19, .int .i64 s.heirs.length), (20, .int .i64 don2.length), (53, .bool true)] ∧ S hx)) (awp_drawB (c := 20) Ty.mixed (by kernel_rfl) (by kernel_rfl) rfl (by kernel_rfl) ?_ ?_) ?_
        · unfold seps
          simp (disch := omega) only [go_sem, seval]
        · simp only [List.take_succ_cons, List.take_zero, List.drop_succ_cons, List.drop_zero]
          cases hb : m.testBit don2.length <;> rw [hb] at hbg
          · have hw := hway.2
            rw [hb, if_neg (by simp)] at hw
            simp (disch := omega) only [go_sem, seval, g3, hbg, show (false == true) = false from rfl, show (true == false) = false from rfl]
            refine .inl ?_
            rw [hfm, hw]
            simpa using hIh2
          · have hw := hway.2
            rw [hb, if_pos rfl] at hw
            obtain ⟨r', hr'⟩ := hsplit _ hw
            simp (disch := omega) only [go_sem, seval, g3, hbg]
            rw [hsl, hxo]
            refine AYield.mono (HY _ ⟨⟨2, x.person⟩, m ^^^ 2 ^ don2.length, x.leave⟩ r' _ hr' hIh2) ?_
            rintro _ h' (⟨rfl, hI2⟩ | ⟨rfl, hS⟩) <;> simp (disch := omega) only [go_sem, seval]
            · refine .inl ?_
              rw [hfm, hw]
              simpa using hI2
            · exact .inr hS
        · rintro _ hy (⟨rfl, hI2⟩ | ⟨rfl, hS⟩)
          · refine aCode_ok Ty.mixed _ _ _ _ (by kernel_rfl) ?_
            simp (disch := omega) only [go_sem, seval]
            refine aCode_ok Ty.mixed _ _ _ _ (by kernel_rfl) ?_
            simp (disch := omega) only [go_sem, seval, List.length_append]
            exact hI2
          · refine aCode_ok Ty.mixed _ _ _ _ (by kernel_rfl) ?_
            simp (disch := omega) only [go_sem, seval]
            exact .inr hS
      · have hk1 : k = 1 := by omega
        subst hk1
        refine AWP.keep [0, 1, 2, 5, 6, 7, 8, 9, 10, 11, 18, 19, 20] ?_
        simp (disch := omega) only [go_sem, seval]
        refine awp_only [0, 1, 2, 5, 9, 10, 11, 18, 19, 20, 53] (fun σ hx => (σ = [(0, .yield L), (1, .ptr (some (a, 0))), (2, .ptr (some (b, 0))), (5, .int .i64 1), (9, .sl (encI [1, 2]) .full), (10, .int .i64 2), (11, .int .i64 don.length), (18, .sl (encHs s.heirs) .free), (19, .int .i64 s.heirs.length), (20, .int .i64 don2.length), (53, .bool false)] ∧ I ((don.flatMap fun k => s.heirs.map fun x => (⟨k, x.person⟩ : Sg)).filterMap (fW s m) ++ ((don2 ++ [x]).map fun x => (⟨1, x.person⟩ : Sg)).filterMap (fW s m)) hx) ∨ (σ = [(0, .yield L), (1, .ptr (some (a, 0))), (2, .ptr (some (b, 0))), (5, .int .i64 1), (9, .sl (encI [1, 2]) .full), (10, .int .i64 2), (11, .int .i64 don.length), (18, .sl (encHs s.heirs) .free), (19, .int .i64 s.heirs.length), (20, .int .i64 don2.length), (53, .bool true)] ∧ S hx)) (awp_drawB (c := 20) Ty.mixed (by kernel_rfl) (by kernel_rfl) rfl (by kernel_rfl) ?_ ?_) ?_
        · unfold seps
          simp (disch := omega) only [go_sem, seval]
        · simp only [List.take_succ_cons, List.take_zero, List.drop_succ_cons, List.drop_zero]
          cases hb : m.testBit don2.length <;> rw [hb] at hbg
          · have hw := hway.1
            rw [hb, if_neg (by simp)] at hw
            obtain ⟨r', hr'⟩ := hsplit _ hw
            simp (disch := omega) only [go_sem, seval, g3, hbg]
            rw [hsl, hxo]
            refine AYield.mono (HY _ ⟨⟨1, x.person⟩, m ^^^ 2 ^ don2.length, x.join⟩ r' _ hr' hIh2) ?_
            rintro _ h' (⟨rfl, hI2⟩ | ⟨rfl, hS⟩) <;> simp (disch := omega) only [go_sem, seval]
            · refine .inl ?_
              rw [hfm, hw]
              simpa using hI2
            · exact .inr hS
          · have hw := hway.1
            rw [hb, if_pos rfl] at hw
            simp (disch := omega) only [go_sem, seval, g3, hbg, show (false == true) = false from rfl, show (true == false) = false from rfl]
            refine .inl ?_
            rw [hfm, hw]
            simpa using hIh2
        · rintro _ hy (⟨rfl, hI2⟩ | ⟨rfl, hS⟩)
          · refine aCode_ok Ty.mixed _ _ _ _ (by kernel_rfl) ?_
            simp (disch := omega) only [go_sem, seval]
            refine aCode_ok Ty.mixed _ _ _ _ (by kernel_rfl) ?_
            simp (disch := omega) only [go_sem, seval, List.length_append]
            exact hI2
          · refine aCode_ok Ty.mixed _ _ _ _ (by kernel_rfl) ?_
            simp (disch := omega) only [go_sem, seval]
            exact .inr hS
    · rintro h hIh
      refine awp_seq (aCode_ok Ty.mixed _ _ _ _ (by kernel_rfl) ?_)
      simp (disch := omega) only [go_sem, seval]
      refine awp_seq (aCode_ok Ty.mixed _ _ _ _ (by kernel_rfl) ?_)
      simp (disch := omega) only [go_sem, seval]
      refine AWP.keep [0, 1, 2, 9, 10, 11] (aCode_ok Ty.mixed _ _ _ _ (by kernel_rfl) ?_)
      simp (disch := omega) only [go_sem, seval]
      refine roundL_next h ?_ ?_ rfl
      · rw [List.flatMap_append, List.filterMap_append]
        simpa using hIh
      · simp (disch := omega) only [go_sem, seval, List.length_append]
  · rintro h hIh
    simp only [id] at hIh ⊢
    simp (disch := omega) only [go_sem, seval]
    refine .inl ?_
    rw [wayL]
    simpa [stagesL] using hIh
end Go.Proofs.Ytaepdkjfaeepmaa

/- The program's queue: its methods. No conditions. -/
set_option linter.unusedSimpArgs false
set_option linter.unusedVariables false
namespace Go.Proofs.Ytaepdkjfaeepmaa
open Go Go.Proofs Go.Abs

abbrev Qe := Nat × Int × Nat
def encR (e : Qe) : List AV := [.int .u64 e.1, .int .i64 e.2.1, .int .i64 e.2.2]
theorem encR_len (e : Qe) : (encR e).length = 3 := rfl
theorem encR_agg (e : Qe) : ∀ a ∈ encR e, a.isAgg = false := fun a ha => by
  simp only [encR, List.mem_cons, List.not_mem_nil, or_false] at ha
  rcases ha with rfl | rfl | rfl <;> rfl
def orF : List Int → Int
  | [] => 0
  | x :: r => if x ≠ 0 then x else orF r
set_option maxRecDepth 100000 in
theorem or_calls (Γ : Nat → Option (List AV)) (l : List Int) (o : Abs.Own) (h : AH) (hl : l.length ≤ 1000) :
    ACalls Try.prog Γ 90 [.sl (encI l) o] h fun v h' => h' = h ∧ v = .int .i64 (orF l) := by
  refine acalls_code (rs := [.tmp 2]) Try.func90 rfl rfl rfl rfl Ty.mixed (by kernel_rfl) ?_
  simp (disch := omega) only [go_sem, seval, encI_len]
  refine awp_loopL (β := Unit) l [3, 6, 7, 8] (fun don _ => [(3, .int .i64 0), (6, .sl (encI l) o), (7, .int .i64 l.length), (8, .int .i64 don.length)]) (fun _ => h) (fun don r _ => orF l = orF r) () ?_ rfl rfl Ty.mixed (by kernel_rfl) ?_ ?_
  · simp (disch := omega) only [go_sem, seval, List.length_nil]
  · rintro don x r _ hd ho
    have hlen : l.length = don.length + 1 + r.length := by rw [hd]; simp; omega
    have e1 : (encI l)[don.length]? = some (.int .i64 x) := by rw [hd]; exact encI_at don r x
    rw [orF] at ho
    simp (disch := omega) only [go_sem, seval]
    refine aIf.pos (by omega) ?_
    simp (disch := omega) only [go_sem, seval, e1, Int.toNat_natCast]
    refine aIf.intro (fun h1 => ?_) (fun h1 => ?_) <;> simp (disch := omega) only [go_sem, seval]
    · refine roundL_next () ?_ ?_ rfl
      · rw [ho, if_neg (by simpa using h1)]
      · simp (disch := omega) only [go_sem, seval, List.length_append]
    · rw [ho, if_pos h1]
  · rintro _ ho
    simp (disch := omega) only [go_sem, seval]
    refine AWP.keep [3] (aCode_ok Ty.mixed _ _ _ _ (by kernel_rfl) ?_)
    simp (disch := omega) only [go_sem, seval]
    rw [ho, orF]
def ltQ (a b : Qe) : Bool := decide (a.2.1 < b.2.1 ∨ (a.2.1 = b.2.1 ∧ a.2.2 < b.2.2))
theorem ltQ_iff {a b : Qe} : ltQ a b = true ↔ ¬ qle b a := by unfold ltQ qle lexLe; rw [decide_eq_true_eq]; omega
theorem ltQ_false {a b : Qe} : ltQ a b = false ↔ qle b a := by rw [← Bool.not_eq_true, ltQ_iff, Classical.not_not]
theorem cmp_ltQ (a b : Qe) : decide (orF [cmpF a.2.1 b.2.1, cmpF a.2.2 b.2.2] < 0) = ltQ a b := by
  unfold ltQ orF orF orF cmpF
  refine decide_eq_decide.2 ?_
  split
  · omega
  · split
    · simp; omega
    · simp; split
      · simp; omega
      · split <;> simp <;> omega
theorem atL_some {Q : List Qe} {i : Nat} (h : i < Q.length) : Q[i]? = some (atL Q i) := by rw [atL, List.getElem?_eq_getElem h]; rfl
theorem encR_drop0 {Q : List Qe} {i : Nat} (h : i < Q.length) (pad : List AV) : (cR encR Q pad).drop (i * 3) = .int .u64 (atL Q i).1 :: .int .i64 (atL Q i).2.1 :: .int .i64 (atL Q i).2.2 :: cR encR (Q.drop (i + 1)) pad := cR_drop encR_len (atL_some h) pad
theorem encR_drop1 {Q : List Qe} {i : Nat} (h : i < Q.length) (pad : List AV) : (cR encR Q pad).drop (i * 3 + 1) = .int .i64 (atL Q i).2.1 :: .int .i64 (atL Q i).2.2 :: cR encR (Q.drop (i + 1)) pad := by
  rw [← List.drop_drop, encR_drop0 h]; rfl
theorem encR_drop2 {Q : List Qe} {i : Nat} (h : i < Q.length) (pad : List AV) : (cR encR Q pad).drop (i * 3 + 2) = .int .i64 (atL Q i).2.2 :: cR encR (Q.drop (i + 1)) pad := by
  rw [← List.drop_drop, encR_drop0 h]; rfl
theorem qlen_calls (Γ : Nat → Option (List AV)) (qa n c : Nat) (h : AH) :
    ACalls Try.prog Γ 48 [.ms qa 0 n c 3] h fun v h' => h' = h ∧ v = .int .i64 n := by
  refine acalls_code (rs := [.tmp 2]) Try.func48 rfl rfl rfl rfl Ty.mixed (by kernel_rfl) ?_
  simp (disch := omega) only [go_sem, seval]
theorem qlen0_calls (Γ : Nat → Option (List AV)) (o : Abs.Own) (h : AH) :
    ACalls Try.prog Γ 48 [.sl [] o] h fun v h' => h' = h ∧ v = .int .i64 0 := by
  refine acalls_code (rs := [.tmp 2]) Try.func48 rfl rfl rfl rfl Ty.mixed (by kernel_rfl) ?_
  simp (disch := omega) only [go_sem, seval, List.length_nil]
set_option maxHeartbeats 1000000 in
set_option maxRecDepth 100000 in
theorem qless_calls (Γ : Nat → Option (List AV)) (qa c : Nat) (Q : List Qe) (pad : List AV) (T : TypeId) (i k : Nat) (h : AH) (hq : h[qa]? = some (.row (cR encR Q pad) T)) (hi : i < Q.length) (hk : k < Q.length) :
    ACalls Try.prog Γ 86 [.ms qa 0 Q.length c 3, .int .i64 i, .int .i64 k] h fun v h' => h' = h ∧ v = .bool (ltQ (atL Q i) (atL Q k)) := by
  have c1 := fun a b h => compare_calls Γ a b h
  have c2 := fun a b h => or_calls Γ [a, b] .full h (by simp)
  have i1 := encR_drop1 hi pad
  have i2 := encR_drop2 hi pad
  have k1 := encR_drop1 hk pad
  have k2 := encR_drop2 hk pad
  simp only [encI, List.map_cons, List.map_nil] at c2
  refine acalls_code (rs := [.tmp 6]) Try.func86 rfl rfl rfl rfl Ty.mixed (by kernel_rfl) ?_
  simp (disch := omega) only [go_sem, seval, hq, Int.toNat_natCast, Nat.zero_add, i1, i2, k1, k2]
  refine ⟨by omega, by omega, ?_⟩
  refine aCallF.intro (fun _ => c1 _ _ _) ?_
  simp (disch := omega) only [go_sem, seval, hq, Int.toNat_natCast, Nat.zero_add, i1, i2, k1, k2]
  refine ⟨by omega, by omega, ?_⟩
  refine aCallF.intro (fun _ => c1 _ _ _) ?_
  simp (disch := omega) only [go_sem, seval]
  refine aCallF.intro (fun _ => c2 _ _ _) ?_
  simp (disch := omega) only [go_sem, seval]
  rw [cmp_ltQ]
set_option maxHeartbeats 1000000 in
set_option maxRecDepth 100000 in
theorem qswap_calls (Γ : Nat → Option (List AV)) (qa c : Nat) (Q : List Qe) (pad : List AV) (T : TypeId) (i k : Nat) (h : AH) (hq : h[qa]? = some (.row (cR encR Q pad) T)) (hi : i < Q.length) (hk : k < Q.length) :
    ACalls Try.prog Γ 89 [.ms qa 0 Q.length c 3, .int .i64 i, .int .i64 k] h fun v h' => h' = h.set qa (.row (cR encR (swapL Q i k) pad) T) := by
  have i0 := encR_drop0 hi pad
  have k0 := encR_drop0 hk pad
  refine acalls_code (rs := []) Try.func89 rfl rfl rfl rfl Ty.mixed (by kernel_rfl) ?_
  simp (disch := omega) only [go_sem, seval, hq, Int.toNat_natCast, Nat.zero_add, i0, k0, List.take_succ_cons, List.take_zero, List.length_cons]
  have s1 := cR_set (enc := encR) encR_len (l := Q) hi (atL Q k) pad
  have s2 := cR_set (enc := encR) encR_len (l := Q.set i (atL Q k)) (i := k) (by simpa using hk) (atL Q i) pad
  simp only [encR] at s1 s2
  have hql := (List.getElem?_eq_some_iff.1 hq).1
  rw [s1]
  refine ⟨by omega, by omega, by omega, by rw [cR_len encR_len]; omega, by omega, ?_⟩
  simp (disch := omega) only [go_sem, seval, List.getElem?_set_self hql]
  refine ⟨by rw [cR_len encR_len, List.length_set]; omega, ?_⟩
  rw [List.set_set, s2]
  rfl
end Go.Proofs.Ytaepdkjfaeepmaa
