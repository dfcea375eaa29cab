/- Texts joined: SucS, SucT, SucU. No conditions. -/
import Derived.Test.YtaepdkjfaeepmaaMrDE
/- The program's within, set, size. No conditions. -/
set_option linter.unusedSimpArgs false
set_option linter.unusedVariables false
namespace Go.Proofs.Ytaepdkjfaeepmaa
open Go Go.Proofs Go.Abs

theorem pwithin_calls (Γ : Nat → Option (List AV)) (n a b : Int) (h : AH) : ACalls Try.prog Γ 44 [.int .i64 n, .int .i64 a, .int .i64 b] h fun v h' => h' = h ∧ v = .bool (decide (a ≤ n) && decide (n ≤ b)) := by
  refine ACalls.drop ?_
  refine acalls_code (rs := [.tmp 6]) Try.func44 rfl rfl rfl rfl Ty.mixed (by kernel_rfl) ?_
  simp (disch := omega) only [go_sem, seval]
  refine aIf.intro (fun h1 => ?_) (fun h1 => ?_) <;> simp (disch := omega) only [go_sem, seval, h1]
theorem isnan_calls (Γ : Nat → Option (List AV)) (n : Int) (h : AH) : ACalls Try.prog Γ 67 [.int .i64 n] h fun v h' => h' = h ∧ v = .bool false := by
  refine ACalls.drop ?_
  refine acalls_code (rs := [.tmp 2]) Try.func67 rfl rfl rfl rfl Ty.mixed (by kernel_rfl) ?_
  simp (disch := omega) only [go_sem, seval]
def cmpF (a b : Int) : Int := if a < b then -1 else if b < a then 1 else 0
theorem compare_calls (Γ : Nat → Option (List AV)) (a b : Int) (h : AH) : ACalls Try.prog Γ 62 [.int .i64 a, .int .i64 b] h fun v h' => h' = h ∧ v = .int .i64 (cmpF a b) := by
  refine ACalls.drop ?_
  refine acalls_code (rs := [.tmp 4]) Try.func62 rfl rfl rfl rfl Ty.mixed (by kernel_rfl) ?_
  simp (disch := omega) only [go_sem, seval]
  refine ACalls.det (isnan_calls Γ _ _) ?_
  simp (disch := omega) only [go_sem, seval]
  refine ACalls.det (isnan_calls Γ _ _) ?_
  simp (disch := omega) only [go_sem, seval]
  refine aIf.intro (fun h1 => ?_) (fun h1 => ?_) <;> simp (disch := omega) only [go_sem, seval]
  · simp [cmpF, h1]
  refine aIf.intro (fun h2 => ?_) (fun h2 => ?_) <;> simp (disch := omega) only [go_sem, seval]
  · simp [cmpF, h1, h2]
  · simp [cmpF, h1, h2]
theorem set1_calls (Γ : Nat → Option (List AV)) (x : Hr) (p : Int) (h : AH) : ACalls Try.prog Γ 61 [encH x, .int .i64 p] h fun v h' => h' = h ∧ v = .int .i64 (cmpF x.person p) := by
  refine ACalls.drop ?_
  simp only [encH]
  refine acalls_code (rs := [.tmp 4]) Try.func61 rfl rfl rfl rfl Ty.mixed (by kernel_rfl) ?_
  simp (disch := omega) only [go_sem, seval]
  refine ACalls.det (compare_calls Γ _ _ _) ?_
  simp (disch := omega) only [go_sem, seval]
def prAt (hs : List Hr) (i : Nat) : Int := (hs.getD i ⟨0, 0, 0⟩).person
theorem prAt_get {hs : List Hr} {i : Nat} (hi : i < hs.length) : (encHs hs)[i]? = some (encH (hs.getD i ⟨0, 0, 0⟩)) := by
  rw [encHs, List.getElem?_map, List.getElem?_eq_getElem hi, List.getD_eq_getElem?_getD, List.getElem?_eq_getElem hi]; rfl
theorem srt_at {hs : List Hr} (hp : Srt hs) {i j : Nat} (hij : i < j) (hj : j < hs.length) : prAt hs i < prAt hs j := by
  have := List.pairwise_iff_getElem.1 hp i j (by omega) hj hij
  simpa [prAt, List.getD_eq_getElem?_getD, show i < hs.length by omega, hj] using this
theorem heirI_at {hs : List Hr} (hp : Srt hs) {i : Nat} (hi : i < hs.length) : heirI hs (prAt hs i) = i := by
  have e : hs = hs.take i ++ hs.getD i ⟨0, 0, 0⟩ :: hs.drop (i + 1) := by
    rw [List.getD_eq_getElem?_getD, List.getElem?_eq_getElem hi]; simp
  have h1 : ∀ y ∈ hs.take i, y.person ≠ prAt hs i := fun y hy => by
    obtain ⟨k, hk, rfl⟩ := List.getElem_of_mem hy
    have hk' : k < i := by simp at hk; omega
    have := srt_at hp hk' hi
    simp only [prAt, List.getD_eq_getElem?_getD, List.getElem?_eq_getElem (show k < hs.length by omega), List.getElem_take, Option.getD_some] at this ⊢
    omega
  have := heirI_skip (prAt hs i) (hs.take i) (hs.getD i ⟨0, 0, 0⟩ :: hs.drop (i + 1)) h1
  rw [← e] at this
  have e0 : (hs.getD i ⟨0, 0, 0⟩).person = prAt hs i := rfl
  rw [this, heirI, if_pos e0, if_neg (by simp)]
  simp; omega
theorem heirI_none {hs : List Hr} {p : Int} (h : ∀ i, i < hs.length → prAt hs i ≠ p) : heirI hs p = -1 := by
  have := heirI_skip p hs [] fun y hy => by
    obtain ⟨k, hk, rfl⟩ := List.getElem_of_mem hy
    have := h k hk
    simpa [prAt, List.getD_eq_getElem?_getD, hk] using this
  rw [List.append_nil, heirI, if_pos (by omega)] at this
  exact this
theorem half_ix (i k : Nat) (h : i + k ≤ 100000) : IntKind.i64.wrap ((IntKind.u64.wrap ((i : Int) + k)).fdiv (2 ^ min 1 64)) = (((i + k) / 2 : Nat) : Int) := by
  rw [IntWalk.u64_in _ ⟨by omega, by omega⟩, show ((2 : Int) ^ min 1 64) = 2 from rfl, Int.fdiv_eq_ediv_of_nonneg _ (by decide), IntKind.wrap_i64]; omega
structure BsS where
  i : Nat
  k : Nat
set_option maxHeartbeats 1000000 in
set_option maxRecDepth 100000 in
theorem bsearch_calls (Γ : Nat → Option (List AV)) (hs : List Hr) (p : Int) (h : AH) (hp : Srt hs) (hl : hs.length ≤ 1000) :
    ACalls Try.prog Γ 60 [.sl (encHs hs) .free, .int .i64 p, .func 61 [] []] h fun v h' => h' = h ∧ ∃ i : Nat, v = .tuple [.int .i64 i, .bool (decide (0 ≤ heirI hs p))] ∧ (0 ≤ heirI hs p → heirI hs p = i) := by
  have c1 := fun x h => set1_calls Γ x p h
  simp only [encH] at c1
  refine ACalls.drop ?_
  refine acalls_code (rs := [.tmp 6, .tmp 7]) Try.func60 rfl rfl rfl rfl Ty.mixed (by kernel_rfl) ?_
  simp (disch := omega) only [go_sem, seval, encHs_len]
  refine awp_loopS (α := BsS) [0, 1, 2, 8, 9, 10] (fun w => [(0, .sl (encHs hs) .free), (1, .int .i64 p), (2, .func 61 [] []), (8, .int .i64 hs.length), (9, .int .i64 w.i), (10, .int .i64 w.k)]) (fun _ => h)
    (fun w => w.i ≤ w.k ∧ w.k ≤ hs.length ∧ (∀ j, j < w.i → prAt hs j < p) ∧ (∀ j, w.k ≤ j → j < hs.length → p ≤ prAt hs j)) (fun w => w.k - w.i) ⟨0, hs.length⟩ ?_ rfl ⟨Nat.zero_le _, Nat.le_refl _, fun j hj => absurd hj (Nat.not_lt_zero _), fun j h1 h2 => by simp only at h1; omega⟩ Ty.mixed (by kernel_rfl) ?_
  · simp (disch := omega) only [go_sem, seval, encHs_len]
  rintro ⟨i, k⟩ ⟨hik, hk, hlo, hhi⟩
  simp only at hik hk hlo hhi ⊢
  simp (disch := omega) only [go_sem, seval]
  refine aIf.intro (fun h1 => ?_) (fun h1 => ?_) <;> simp (disch := omega) only [go_sem, seval]
  · have hm : (i + k) / 2 < hs.length := by omega
    have e1 := prAt_get hm
    have e2 : (hs.getD ((i + k) / 2) ⟨0, 0, 0⟩).person = prAt hs ((i + k) / 2) := rfl
    simp only [encH] at e1
    simp (disch := omega) only [go_sem, seval, half_ix i k (by omega)]
    simp (disch := omega) only [go_sem, seval, half_ix i k (by omega), Int.toNat_natCast, e1]
    refine ACalls.det (c1 (hs.getD ((i + k) / 2) ⟨0, 0, 0⟩) _) ?_
    rw [e2]
    simp (disch := omega) only [go_sem, seval]
    generalize hmm : (i + k) / 2 = m at *
    refine aIf.intro (fun h2 => ?_) (fun h2 => ?_) <;> simp (disch := omega) only [go_sem, seval]
    · have hlt : prAt hs m < p := by unfold cmpF at h2; split at h2 <;> first | assumption | (split at h2 <;> omega)
      refine roundS_next (⟨m + 1, k⟩ : BsS) (by simp only; omega) ⟨by simp only; omega, hk, fun j hj => ?_, hhi⟩ ?_ rfl
      · simp only at hj
        rcases Nat.lt_or_eq_of_le (show j ≤ m by omega) with hj | rfl
        · exact Int.lt_trans (srt_at hp hj hm) hlt
        · exact hlt
      · simp (disch := omega) only [go_sem, seval]
    · have hge : p ≤ prAt hs m := by unfold cmpF at h2; split at h2 <;> omega
      refine roundS_next (⟨i, m⟩ : BsS) (by simp only; omega) ⟨by simp only; omega, by simp only; omega, hlo, fun j hj1 hj2 => ?_⟩ ?_ rfl
      · simp only at hj1
        rcases Nat.lt_or_eq_of_le hj1 with hj | rfl
        · exact Int.le_trans hge (Int.le_of_lt (srt_at hp hj hj2))
        · exact hge
      · simp (disch := omega) only [go_sem, seval]
  · have hik : i = k := by omega
    subst hik
    refine AWP.keep [0, 1, 2, 8, 9] (aCode_ok Ty.mixed _ _ _ _ (by kernel_rfl) ?_)
    simp (disch := omega) only [go_sem, seval]
    refine aIf.intro (fun h2 => ?_) (fun h2 => ?_) <;> simp (disch := omega) only [go_sem, seval]
    · have hi : i < hs.length := by omega
      have e1 := prAt_get hi
      have e2 : (hs.getD i ⟨0, 0, 0⟩).person = prAt hs i := rfl
      simp only [encH] at e1
      simp (disch := omega) only [go_sem, seval, Int.toNat_natCast, e1]
      refine ACalls.det (c1 (hs.getD i ⟨0, 0, 0⟩) _) ?_
      rw [e2]
      simp (disch := omega) only [go_sem, seval]
      have hge := hhi i (Nat.le_refl _) hi
      refine ⟨i, ?_, fun h0 => ?_⟩
      · congr 2
        congr 1
        congr 1
        refine decide_eq_decide.2 ⟨fun e => ?_, fun e => ?_⟩
        · have : prAt hs i = p := by unfold cmpF at e; split at e <;> first | omega | (split at e <;> omega)
          rw [← this, heirI_at hp hi]; omega
        · have : prAt hs i = p := by
            obtain ⟨y, h1, h3⟩ := heirI_spec p hs e
            obtain ⟨h4, h5⟩ := List.getElem?_eq_some_iff.1 h1
            have h6 : prAt hs (heirI hs p).toNat = p := by rw [prAt, List.getD_eq_getElem?_getD, h1]; exact h3
            rcases Nat.lt_trichotomy (heirI hs p).toNat i with hj | hj | hj
            · have := hlo _ hj; omega
            · rw [← hj]; exact h6
            · have := srt_at hp hj h4; omega
          unfold cmpF; rw [this]; simp
      · obtain ⟨y, h1, h3⟩ := heirI_spec p hs h0
        obtain ⟨h4, h5⟩ := List.getElem?_eq_some_iff.1 h1
        have h6 : prAt hs (heirI hs p).toNat = p := by rw [prAt, List.getD_eq_getElem?_getD, h1]; exact h3
        rcases Nat.lt_trichotomy (heirI hs p).toNat i with hj | hj | hj
        · have := hlo _ hj; omega
        · omega
        · have := srt_at hp hj h4; omega
    · have hno : heirI hs p = -1 := heirI_none fun j hj => by have := hlo j (by omega); omega
      rw [hno]
      exact ⟨i, rfl, by simp⟩
/-! ### Bits -/
theorem bits_and (a b : Nat) (ha : a < 18446744073709551616) : bitsOp .and .u64 (a : Int) (b : Int) = ((a &&& b : Nat) : Int) := by
  show IntKind.u64.wrap ((BitVec.ofInt 64 (a : Int) &&& BitVec.ofInt 64 (b : Int)).toNat : Int) = _
  rw [BitVec.toNat_and, BitVec.ofInt_natCast, BitVec.ofInt_natCast, BitVec.toNat_ofNat, BitVec.toNat_ofNat]
  have e : a % 2 ^ 64 &&& b % 2 ^ 64 = a &&& b := by
    rw [← Nat.and_mod_two_pow]
    refine Nat.mod_eq_of_lt (Nat.lt_of_le_of_lt Nat.and_le_left ?_)
    exact ha
  rw [e]
  have : a &&& b ≤ a := Nat.and_le_left
  exact IntWalk.u64_in _ ⟨by omega, by omega⟩
theorem bits_or (a b : Nat) (ha : a < 18446744073709551616) (hb : b < 18446744073709551616) : bitsOp .or .u64 (a : Int) (b : Int) = ((a ||| b : Nat) : Int) ∧ a ||| b < 18446744073709551616 := by
  have h : a ||| b < 2 ^ 64 := Nat.or_lt_two_pow ha hb
  refine ⟨?_, h⟩
  show IntKind.u64.wrap ((BitVec.ofInt 64 (a : Int) ||| BitVec.ofInt 64 (b : Int)).toNat : Int) = _
  rw [BitVec.toNat_or, BitVec.ofInt_natCast, BitVec.ofInt_natCast, BitVec.toNat_ofNat, BitVec.toNat_ofNat, Nat.mod_eq_of_lt ha, Nat.mod_eq_of_lt hb]
  generalize a ||| b = c at h
  exact IntWalk.u64_in _ ⟨by omega, by omega⟩
theorem bits_xor (a b : Nat) (ha : a < 18446744073709551616) (hb : b < 18446744073709551616) : bitsOp .xor .u64 (a : Int) (b : Int) = ((a ^^^ b : Nat) : Int) ∧ a ^^^ b < 18446744073709551616 := by
  have h : a ^^^ b < 2 ^ 64 := Nat.xor_lt_two_pow ha hb
  refine ⟨?_, h⟩
  show IntKind.u64.wrap ((BitVec.ofInt 64 (a : Int) ^^^ BitVec.ofInt 64 (b : Int)).toNat : Int) = _
  rw [BitVec.toNat_xor, BitVec.ofInt_natCast, BitVec.ofInt_natCast, BitVec.toNat_ofNat, BitVec.toNat_ofNat, Nat.mod_eq_of_lt ha, Nat.mod_eq_of_lt hb]
  generalize a ^^^ b = c at h
  exact IntWalk.u64_in _ ⟨by omega, by omega⟩
theorem shl_one (m : Nat) (hm : m < 64) : IntKind.u64.wrap (1 * 2 ^ min m 64) = ((2 ^ m : Nat) : Int) := by
  have hp2 : 2 ^ m < 18446744073709551616 := by
    have : 2 ^ m < 2 ^ 64 := Nat.pow_lt_pow_right (by omega) hm
    exact this
  rw [show min m 64 = m by omega, Int.one_mul, show ((2 : Int) ^ m) = ((2 ^ m : Nat) : Int) by norm_cast]
  generalize (2 ^ m : Nat) = q at hp2 ⊢
  exact IntWalk.u64_in _ ⟨by omega, by omega⟩
def onA (a : Int) : Int := IntKind.u64.wrap (bitsOp .and .u64 (a.fdiv (2 ^ min 1 64)) 6148914691236517205 + bitsOp .and .u64 a 6148914691236517205)
def onB (a : Int) : Int := IntKind.u64.wrap (bitsOp .and .u64 (a.fdiv (2 ^ min 2 64)) 3689348814741910323 + bitsOp .and .u64 a 3689348814741910323)
def onC (a : Int) : Int := bitsOp .and .u64 (IntKind.u64.wrap (a.fdiv (2 ^ min 4 64) + a)) 1085102592571150095
def onD (k : Nat) (a : Int) : Int := IntKind.u64.wrap (a + a.fdiv (2 ^ min k 64))
def onE (a : Int) : Int := bitsOp .and .i64 (IntKind.i64.wrap a) 127
def onesI (a : Int) : Int := onE (onD 32 (onD 16 (onD 8 (onC (onB (onA a))))))
theorem ones_cnt2 : ∀ a b : Fin 32, onesI ((32 * a.val + b.val : Nat) : Int) = cntM ((32 * a.val + b.val : Nat) : Int) 10 := by decide +kernel
theorem ones_cnt (m : Nat) (hm : m < 1024) : onesI (m : Int) = cntM m 10 := by
  have := ones_cnt2 ⟨m / 32, by omega⟩ ⟨m % 32, by omega⟩
  simp only [Nat.div_add_mod] at this
  exact this
set_option maxRecDepth 100000 in
theorem ones64_calls (Γ : Nat → Option (List AV)) (m : Nat) (h : AH) (hm : m < 1024) : ACalls Try.prog Γ 69 [.int .u64 m] h fun v h' => h' = h ∧ v = .int .i64 (cntM m 10) := by
  rw [← ones_cnt m hm]
  refine acalls_code (rs := [.tmp 2]) Try.func69 rfl rfl rfl rfl Ty.mixed (by kernel_rfl) ?_
  simp (disch := omega) only [go_sem, seval]
  rfl
set_option maxRecDepth 100000 in
theorem ones_calls (Γ : Nat → Option (List AV)) (m : Nat) (h : AH) (hm : m < 1024) : ACalls Try.prog Γ 66 [.int .u64 m] h fun v h' => h' = h ∧ v = .int .i64 (cntM m 10) := by
  refine acalls_code (rs := [.tmp 2]) Try.func66 rfl rfl rfl rfl Ty.mixed (by kernel_rfl) ?_
  simp (disch := omega) only [go_sem, seval]
  refine ACalls.det (ones64_calls Γ m _ hm) ?_
  simp (disch := omega) only [go_sem, seval]
theorem psize_calls (Γ : Nat → Option (List AV)) (m : Nat) (h : AH) (hm : m < 1024) : ACalls Try.prog Γ 57 [.int .u64 m] h fun v h' => h' = h ∧ v = .int .i64 (cntM m 10) := by
  refine acalls_code (rs := [.tmp 2]) Try.func57 rfl rfl rfl rfl Ty.mixed (by kernel_rfl) ?_
  simp (disch := omega) only [go_sem, seval]
  refine ACalls.det (ones_calls Γ m _ hm) ?_
  simp (disch := omega) only [go_sem, seval]
end Go.Proofs.Ytaepdkjfaeepmaa

/- The program's set, enter. No conditions. -/
set_option linter.unusedSimpArgs false
set_option linter.unusedVariables false
namespace Go.Proofs.Ytaepdkjfaeepmaa
open Go Go.Proofs Go.Abs

theorem orN_snoc (hs : List Hr) (a : Nat) (l : List Int) (x : Int) : orN hs a (l ++ [x]) = orN hs a l ||| 2 ^ (heirI hs x).toNat := by simp [orN]
theorem prAt_mem {hs : List Hr} {p : Int} (h : 0 ≤ heirI hs p) : ∃ x ∈ hs, x.person = p := by
  obtain ⟨x, h1, h2⟩ := heirI_spec p hs h
  exact ⟨x, List.mem_of_getElem? h1, h2⟩
def lastP (l : List Int) : Int := l.getLast?.getD (-1)
structure StS where
  m : Nat
  last : Int
set_option maxHeartbeats 1000000 in
set_option maxRecDepth 100000 in
theorem pset_calls (Γ : Nat → Option (List AV)) (hs : List Hr) (l : List Int) (i : Nat) (rest : List AV) (T : TypeId) (h : AH) (hi : h[i]? = some (.row (.sl (encHs hs) .free :: rest) T)) (hp : Srt hs) (hpos : ∀ x ∈ hs, 0 ≤ x.person) (hl : hs.length ≤ 10) (hll : l.length ≤ 9223372036854775807) :
    ACalls Try.prog Γ 46 [.ptr (some (i, 0)), .sl (encI l) .free] h fun v h' => h' = h ∧ v = .tuple [.int .u64 (if hsF hs none l = true then numN hs l else 0), .bool (hsF hs none l)] := by
  have c1 := fun p h => bsearch_calls Γ hs p h hp (by omega)
  refine acalls_code (rs := [.tmp 4, .tmp 5]) Try.func46 rfl rfl rfl rfl Ty.mixed (by kernel_rfl) ?_
  simp (disch := omega) only [go_sem, seval, encI_len]
  refine awp_loopL (β := Unit) l [0, 4, 6, 11, 12, 13] (fun don _ => [(0, .ptr (some (i, 0))), (4, .int .u64 (orN hs 0 don)), (6, .int .i64 (lastP don)), (11, .sl (encI l) .free), (12, .int .i64 l.length), (13, .int .i64 don.length)]) (fun _ => h)
    (fun don r _ => hsF hs none l = hsF hs don.getLast? r ∧ orN hs 0 don < 1024) () ?_ rfl ⟨rfl, by simp [orN]⟩ Ty.mixed (by kernel_rfl) ?_ ?_
  · simp (disch := omega) only [go_sem, seval, encI_len, show orN hs 0 [] = 0 from rfl, show lastP [] = -1 from rfl, List.length_nil]
  · rintro don x r _ hd ⟨ho, hor⟩
    have hlen : l.length = don.length + 1 + r.length := by rw [hd]; simp; omega
    have e1 : (encI l)[don.length]? = some (.int .i64 x) := by rw [hd]; exact encI_at don r x
    rw [hsF] at ho
    simp (disch := omega) only [go_sem, seval]
    refine aIf.pos (by omega) ?_
    simp (disch := omega) only [go_sem, seval, e1, hi]
    refine ACalls.then (c1 x _) ?_
    rintro v _ ⟨rfl, k, rfl, hk⟩
    simp (disch := omega) only [go_sem, seval]
    have hlt : ltO don.getLast? x = decide (lastP don < x) ∨ heirI hs x < 0 := by
      unfold lastP
      cases hg : don.getLast? with
      | none =>
        by_cases h0 : 0 ≤ heirI hs x
        · obtain ⟨y, hy, rfl⟩ := prAt_mem h0
          have := hpos y hy
          exact .inl (by simp [ltO]; omega)
        · exact .inr (by omega)
      | some y => exact .inl rfl
    refine aIf.intro (fun h1 => ?_) (fun h1 => ?_) <;> simp (disch := omega) only [go_sem, seval]
    · refine aIf.intro (fun h2 => ?_) (fun h2 => ?_) <;> simp (disch := omega) only [go_sem, seval]
      · have : hsF hs none l = false := by
          rcases hlt with e | e
          · rw [ho, e, decide_eq_false (show ¬ lastP don < x by omega)]; simp
          · omega
        rw [this]; rfl
      · have hk := hk h1
        have hix := heirI_lt x hs
        have hkt : (heirI hs x).toNat = k := by omega
        have hk10 : k < 10 := by omega
        have h2k : 2 ^ k < 1024 := Nat.pow_lt_pow_right (n := 10) (by decide) hk10
        have hs1 := shl_one k (by omega)
        have hor2 := bits_or (orN hs 0 don) (2 ^ k) (by omega) (by omega)
        have hor3 : orN hs 0 don ||| 2 ^ k < 2 ^ 10 := Nat.or_lt_two_pow (n := 10) hor h2k
        have hlt2 : ltO don.getLast? x = true := by
          rcases hlt with e | e
          · rw [e]; exact decide_eq_true (by omega)
          · omega
        refine roundL_next () ⟨?_, ?_⟩ ?_ rfl
        · rw [ho, hlt2, decide_eq_true h1, List.getLast?_concat]; rfl
        · rw [orN_snoc, hkt]; exact hor3
        · simp (disch := omega) only [go_sem, seval, hs1, hor2.1, orN_snoc, hkt, List.length_append]
          simp only [lastP, List.getLast?_concat, Option.getD_some]
    · have : hsF hs none l = false := by rw [ho, decide_eq_false h1]; simp
      rw [this]; rfl
  · rintro _ ⟨ho, hor⟩
    simp (disch := omega) only [go_sem, seval]
    refine AWP.keep [4] (aCode_ok Ty.mixed _ _ _ _ (by kernel_rfl) ?_)
    simp (disch := omega) only [go_sem, seval]
    have ht : hsF hs none l = true := by rw [ho, hsF]
    rw [ht, if_pos rfl, (num_lt hp ht).2]
set_option maxRecDepth 100000 in
theorem pfine_calls (Γ : Nat → Option (List AV)) (hs : List Hr) (l : List Int) (i : Nat) (rest : List AV) (T : TypeId) (h : AH) (hi : h[i]? = some (.row (.sl (encHs hs) .free :: rest) T)) (hp : Srt hs) (hpos : ∀ x ∈ hs, 0 ≤ x.person) (hl : hs.length ≤ 10) (hll : l.length ≤ 9223372036854775807)
    (k o : Nat) (cs : List AV) (T2 : TypeId) (hk : h[k]? = some (.row cs T2)) (ho : o < cs.length) :
    ACalls Try.prog Γ 45 [.ptr (some (k, o)), .sl (encI l) .free, .ptr (some (i, 0))] h fun v h' => h' = h.set k (.row (cs.set o (.int .u64 (if hsF hs none l = true then numN hs l else 0))) T2) ∧ v = .bool (hsF hs none l) := by
  have c1 := fun h hi => pset_calls Γ hs l i rest T h hi hp hpos hl hll
  refine acalls_code (rs := [.tmp 5]) Try.func45 rfl rfl rfl rfl Ty.mixed (by kernel_rfl) ?_
  simp (disch := omega) only [go_sem, seval]
  refine ACalls.det (c1 _ hi) ?_
  simp (disch := omega) only [go_sem, seval, hk]
  omega
/-- An estate as the program keeps it. -/
def encU (l : List Nat) : List AV := l.map fun m : Nat => AV.int .u64 (m : Int)
def nevL (s : Es) : List Nat := s.never.map (numN s.heirs)
def hsC (s : Es) : List AV := [.sl (encHs s.heirs) .free, .int .u64 (numN s.heirs s.members), .int .u64 (numN s.heirs s.alive), .sl (encI s.needs) .free, .sl (encU (nevL s)) .free]
def EntR (s : Es) (v : AV) : Prop := ∃ hc, v = .tuple [.agg hc, .int .i64 (checkE s)] ∧ hc.length = 5 ∧ (∀ c ∈ hc, c.one = true) ∧ (checkE s = 0 → hc = hsC s)
def lastH (l : List Hr) : Int := (l.getLast?.map fun x => x.person).getD (-1)
theorem loose_H (l : List Hr) : looseL (encHs l) = encHs l := looseL_maps _ (fun _ => rfl) l
theorem loose_U (l : List Nat) : looseL (encU l) = encU l := looseL_maps _ (fun _ => rfl) l
theorem rb_H (n : Nat) (l : List Hr) : RB n (.sl (encHs l) .free) = True := eq_true (.sl' fun r hr => by
  obtain ⟨x, _, rfl⟩ := List.mem_map.1 hr
  exact of_eq_true (by rw [encH]; simp (disch := omega) only [go_sem, seval]))
theorem rb_U (n : Nat) (l : List Nat) : RB n (.sl (encU l) .free) = True := eq_true (.sl' fun r hr => by
  obtain ⟨i, _, rfl⟩ := List.mem_map.1 hr; exact .int _ _)
attribute [go_sem] loose_H loose_U rb_H rb_U
theorem fzL_maps {α : Type} (f : α → AV) {i : Nat} {cs : List AV} (hf : ∀ a, fzV i cs (f a) = f a) (l : List α) : fzL i cs (l.map f) = l.map f := by
  rw [fzL_map, List.map_map]
  exact List.map_congr_left fun a _ => hf a
theorem fz_I (i : Nat) (cs : List AV) (l : List Int) : fzL i cs (encI l) = encI l := fzL_maps _ (fun _ => rfl) l
theorem fz_H (i : Nat) (cs : List AV) (l : List Hr) : fzL i cs (encHs l) = encHs l := fzL_maps _ (fun _ => rfl) l
theorem fz_ent (s : Es) (p : Nat) (a b : Int) (e : Int) (vals : List Nat) (hv : vals.length = s.never.length) :
    fzV p (encU vals) (.tuple [.agg [.sl (encHs s.heirs) .free, .int .u64 a, .int .u64 b, .sl (encI s.needs) .free, .ms p 0 s.never.length s.never.length 1], .int .i64 e]) = .tuple [.agg [.sl (encHs s.heirs) .free, .int .u64 a, .int .u64 b, .sl (encI s.needs) .free, .sl (encU vals) .free], .int .i64 e] := by
  have hl : (encU vals).length = s.never.length := by simp [encU, hv]
  have hm : fzV p (encU vals) (.ms p 0 s.never.length s.never.length 1) = .sl (encU vals) .free := by
    rw [fzV, if_pos, List.drop_zero, rowsOf_one _ _ (by omega), ← hl, List.take_length]
    refine ⟨rfl, ?_⟩
    simp only [fzOK, Bool.and_eq_true, decide_eq_true_eq, bne_iff_ne, List.all_eq_true, Bool.not_eq_true']
    refine ⟨⟨⟨by omega, by omega⟩, by decide⟩, fun a ha => ?_⟩
    obtain ⟨x, _, rfl⟩ := List.mem_map.1 ha
    rfl
  rw [fzV, fzL, fzL, fzL, fzV, fzL, fzL, fzL, fzL, fzL, fzL, hm]
  simp only [fzV, fz_I, fz_H]
theorem zrow_U (n : Nat) : zrow n [.int .u64 0] = encU (List.replicate n 0) := by
  induction n with
  | zero => rfl
  | succ n ih =>
    have e : zrow (n + 1) [.int .u64 0] = .int .u64 0 :: zrow n [.int .u64 0] := by simp [zrow, List.replicate_succ]
    rw [e, ih]; rfl
theorem encU_len (l : List Nat) : (encU l).length = l.length := by simp [encU]
theorem encU_set (l : List Nat) (i x : Nat) : (encU l).set i (.int .u64 (x : Int)) = encU (l.set i x) := by simp [encU, List.map_set]
set_option maxHeartbeats 4000000 in
set_option maxRecDepth 100000 in
theorem penter_calls (Γ : Nat → Option (List AV)) (s : Es) (h : AH) (hs : EsL s) :
    ACalls Try.prog Γ 28 [encEs s] h fun v h' => h' = h ∧ EntR s v := by
  have cw := fun n a b h => pwithin_calls Γ n a b h
  have k1 := hs.h
  have k2 := hs.m
  have k3 := hs.a
  have k4 := hs.n
  have k5 := hs.v
  refine ACalls.endC ?_
  simp only [encEs, esC]
  refine acalls_of_awp (rs := [.cell 2 61, .tmp 3]) Try.func28 rfl rfl rfl rfl ?_
  refine awp_seq (aCode_ok Ty.mixed _ _ _ _ (by kernel_rfl) ?_)
  simp (disch := omega) only [go_sem, seval]
  refine awp_seq (aCode_ok Ty.mixed _ _ _ _ (by kernel_rfl) ?_)
  simp (disch := omega) only [go_sem, seval, encHs_len, encNv_len]
  have hdef : checkE s = if 10 < s.heirs.length ∨ 16 < s.never.length then 2 else if rightE s = true then 0 else 520 := rfl
  have bad : ∀ e, e = checkE s → e ≠ 0 → EntR s (.tuple [.agg [.sl [] .free, .int .u64 0, .int .u64 0, .sl [] .free, .sl [] .free], .int .i64 e]) := fun e he h0 => by
    subst he
    exact ⟨_, rfl, rfl, by simp [AV.one], fun e => absurd e h0⟩
  refine aIf.intro (fun h1 => ?_) (fun h1 => ?_) <;> simp (disch := omega) only [go_sem, seval, encHs_len, encNv_len]
  · exact .inl (bad 2 (by rw [hdef, if_pos (by omega)]) (by decide))
  refine aIf.intro (fun h2 => ?_) (fun h2 => ?_) <;> simp (disch := omega) only [go_sem, seval, encHs_len, encNv_len, encI_len]
  · exact .inl (bad 2 (by rw [hdef, if_pos (by omega)]) (by decide))
  rw [if_neg (by omega)] at hdef
  have no : rightE s = false → 520 = checkE s := fun e => by rw [hdef, e]; rfl
  refine awp_seq (aCode_ok Ty.mixed _ _ _ _ (by kernel_rfl) ?_)
  simp (disch := omega) only [go_sem, seval, encHs_len, encI_len]
  refine aIf.intro (fun h3 => ?_) (fun h3 => ?_) <;> simp (disch := omega) only [go_sem, seval, encHs_len, encI_len]
  · have : s.heirs.length = 0 := by omega
    exact .inl (bad 520 (no (by simp [rightE, this])) (by decide))
  refine aIf.intro (fun h4 => ?_) (fun h4 => ?_) <;> simp (disch := omega) only [go_sem, seval, encHs_len, encI_len]
  rotate_left
  · have : ¬ s.needs.length = s.heirs.length + 1 := by omega
    exact .inl (bad 520 (no (by simp [rightE, this])) (by decide))
  have hn : s.needs.length = s.heirs.length + 1 := by omega
  have e0 := nd_get (s := s) (i := 0) (by omega)
  simp (disch := omega) only [go_sem, seval, e0]
  refine aIf.intro (fun h5 => ?_) (fun h5 => ?_) <;> simp (disch := omega) only [go_sem, seval]
  rotate_left
  · exact .inl (bad 520 (no (by simp [rightE, h5])) (by decide))
  refine awp_seq (aCode_ok Ty.mixed _ _ _ _ (by kernel_rfl) ?_)
  simp (disch := omega) only [go_sem, seval]
  refine awp_seq (aCode_ok Ty.mixed _ _ _ _ (by kernel_rfl) ?_)
  simp (disch := omega) only [go_sem, seval, encHs_len]
  refine awp_loopL (β := AH) s.heirs [1, 2, 4, 44, 45, 46] (fun don _ => [(1, .ptr (some (h.length, 0))), (2, .ptr (some (h.length + 1, 0))), (4, .int .i64 (lastH don)), (44, .sl (encHs s.heirs) .free), (45, .int .i64 s.heirs.length), (46, .int .i64 don.length)])
    (fun jj => h ++ (.row (esC s) 26 :: .row [.sl [] .full, .int .u64 0, .int .u64 0, .sl [] .full, .sl [] .full] 61 :: jj))
    (fun don r _ => okH s none 0 s.heirs = okH s (don.getLast?.map fun x => x.person) don.length r ∧ -1 ≤ lastH don ∧ lastH don ≤ 63) [] ?_ rfl ⟨rfl, by decide, by decide⟩ Ty.mixed (by kernel_rfl) ?_ ?_
  · simp (disch := omega) only [go_sem, seval, show lastH [] = -1 from rfl, List.length_nil]
  · rintro don x r jj hd ⟨ho, hl1, hl2⟩
    have hlen : s.heirs.length = don.length + 1 + r.length := by rw [hd]; simp; omega
    have e1 : (encHs s.heirs)[don.length]? = some (encH x) := by rw [hd]; exact encHs_get don r x
    have e2 := nd_get (s := s) (i := don.length + 1) (by omega)
    rw [okH] at ho
    simp only [encH] at e1
    have k1 : ∀ (a b : AObj) (R : AH), (h ++ a :: b :: (jj ++ R))[h.length + (jj.length + 1 + 1)]? = R[0]? := fun a b R => by
      rw [hget_add, List.getElem?_cons_succ, List.getElem?_cons_succ]; exact hget_zero jj R
    have k2 : ∀ (a b o : AObj) (R : AH), (h ++ a :: b :: (jj ++ R)).set (h.length + (jj.length + 1 + 1)) o = h ++ a :: b :: (jj ++ R.set 0 o) := fun a b o R => by
      rw [hset_add, List.set_cons_succ, List.set_cons_succ, hset_zero]
    simp only [esC]
    simp (disch := omega) only [go_sem, seval, encHs_len]
    refine aIf.pos (by omega) ?_
    simp (disch := omega) only [go_sem, seval, e1, encHs_len, k1, k2, List.length_append, List.length_cons]
    have okd : okX s (don.getLast?.map fun x => x.person) don.length x = ((((decide (lastH don + 1 ≤ x.person) && decide (x.person ≤ 63)) && (decide (0 ≤ x.join) && decide (x.join ≤ 1048576))) && (decide (0 ≤ x.leave) && decide (x.leave ≤ 1048576))) && (decide (1 ≤ nd s (don.length + 1)) && decide (nd s (don.length + 1) ≤ don.length + 1))) := by
      rw [Bool.eq_iff_iff]
      unfold okX prB
      revert hl1
      unfold lastH
      cases don.getLast?.map fun x => x.person with
      | none => simp only [ltO, Option.getD_none, Bool.and_eq_true, decide_eq_true_eq, Bool.and_true]; omega
      | some y => simp only [ltO, Option.getD_some, Bool.and_eq_true, decide_eq_true_eq]; omega
    have nok : okX s (don.getLast?.map fun x => x.person) don.length x = false → 520 = checkE s := fun e => no (by
      have : okH s none 0 s.heirs = false := by rw [ho, e]; rfl
      simp [rightE, this])
    have e4 : ((don.length : Int) + 1).toNat = don.length + 1 := by omega
    refine ACalls.det (cw _ _ _ _) ?_
    simp (disch := omega) only [go_sem, seval]
    cases hA : (decide (lastH don + 1 ≤ x.person) && decide (x.person ≤ 63)) with
    | false =>
      simp (disch := omega) only [go_sem, seval]
      exact .inl (bad 520 (nok (by rw [okd, hA]; rfl)) (by decide))
    | true =>
    simp (disch := omega) only [go_sem, seval, k1]
    refine ACalls.det (cw _ _ _ _) ?_
    simp (disch := omega) only [go_sem, seval]
    cases hB : (decide (0 ≤ x.join) && decide (x.join ≤ 1048576)) with
    | false =>
      simp (disch := omega) only [go_sem, seval]
      exact .inl (bad 520 (nok (by rw [okd, hA, hB]; rfl)) (by decide))
    | true =>
    simp (disch := omega) only [go_sem, seval, k1]
    refine ACalls.det (cw _ _ _ _) ?_
    simp (disch := omega) only [go_sem, seval]
    cases hC : (decide (0 ≤ x.leave) && decide (x.leave ≤ 1048576)) with
    | false =>
      simp (disch := omega) only [go_sem, seval]
      exact .inl (bad 520 (nok (by rw [okd, hA, hB, hC]; rfl)) (by decide))
    | true =>
    simp (disch := omega) only [go_sem, seval, k1, e4, e2, encI_len]
    refine ⟨by omega, ?_⟩
    refine ACalls.det (cw _ _ _ _) ?_
    simp (disch := omega) only [go_sem, seval]
    cases hD : (decide (1 ≤ nd s (don.length + 1)) && decide (nd s (don.length + 1) ≤ don.length + 1)) with
    | false =>
      simp (disch := omega) only [go_sem, seval]
      exact .inl (bad 520 (nok (by rw [okd, hA, hB, hC, hD]; rfl)) (by decide))
    | true =>
    simp (disch := omega) only [go_sem, seval, k1]
    have hA2 : lastH don + 1 ≤ x.person ∧ x.person ≤ 63 := by simpa using hA
    have hla : lastH (don ++ [x]) = x.person := by simp [lastH]
    refine roundL_next (jj ++ [.row [.int .i64 x.person, .int .i64 x.join, .int .i64 x.leave] 50]) ⟨?_, by rw [hla]; omega, by rw [hla]; omega⟩ ?_ rfl
    · rw [ho, okd, hA, hB, hC, hD, List.getLast?_concat, List.length_append]; rfl
    · simp (disch := omega) only [go_sem, seval, hla, List.length_append]
  · rintro jj ⟨ho, hl1, hl2⟩
    rw [okH] at ho
    have hsrt := (okH_srt _ _ _ ho).2
    have hpos : ∀ x ∈ s.heirs, 0 ≤ x.person := fun x hx => (okH_mem _ _ _ ho x hx).2.2.1
    have hre : rightE s = (hsF s.heirs none s.members && hsF s.heirs none s.alive && s.never.all (hsF s.heirs none)) := by
      rw [rightE, ho, decide_eq_true h5, decide_eq_true hn, decide_eq_true (show s.heirs.length ≠ 0 by omega)]; simp
    simp only [esC]
    simp (disch := omega) only [go_sem, seval, encHs_len]
    refine AWP.keep [1, 2] ?_
    simp (disch := omega) only [go_sem, seval]
    refine awp_only [1, 2] (fun σ hx => σ = [(1, .ptr (some (h.length, 0))), (2, .ptr (some (h.length + 1, 0)))] ∧ hx = h ++ (.row (esC s) 26 :: .row [.sl (encHs s.heirs) .free, .int .u64 0, .int .u64 0, .sl (encI s.needs) .free, .sl [] .full] 61 :: jj)) (awp_any_of [[0, 1, 2, 3, 4, 5, 6, 7], [0, 1, 2, 4, 3, 5, 6, 7], [0, 1, 2, 4, 5, 3, 6, 7], [0, 1, 4, 2, 3, 5, 6, 7], [0, 1, 4, 2, 5, 3, 6, 7], [0, 1, 4, 5, 2, 3, 6, 7], [0, 2, 1, 3, 4, 5, 6, 7], [0, 2, 1, 4, 3, 5, 6, 7], [0, 2, 1, 4, 5, 3, 6, 7], [0, 2, 3, 1, 4, 5, 6, 7], [2, 0, 1, 3, 4, 5, 6, 7], [2, 0, 1, 4, 3, 5, 6, 7], [2, 0, 1, 4, 5, 3, 6, 7], [2, 0, 3, 1, 4, 5, 6, 7], [2, 3, 0, 1, 4, 5, 6, 7]] (by kernel_rfl) Ty.mixed (by kernel_rfl) ?_) ?_
    · intro o ho
      simp only [List.mem_cons, List.not_mem_nil, or_false] at ho
      rcases ho with rfl | rfl | rfl | rfl | rfl | rfl | rfl | rfl | rfl | rfl | rfl | rfl | rfl | rfl | rfl
      all_goals simp only [List.filterMap_cons, List.filterMap_nil, List.getElem?_toArray, List.getElem?_cons_zero, List.getElem?_cons_succ]
      all_goals simp (disch := omega) only [go_sem, seval, esC]
    · rintro _ _ ⟨rfl, rfl⟩
      have e1 : ∀ (a : AObj) (R : AH), (h ++ a :: R)[h.length + 1]? = R[0]? := fun a R => by rw [hget_add, List.getElem?_cons_succ]
      have e2 : ∀ (a b o : AObj) (R : AH), (h ++ a :: b :: R).set (h.length + 1) o = h ++ a :: o :: R := fun a b o R => by rw [hset_add]; rfl
      refine awp_seq (aCode_ok Ty.mixed _ _ _ _ (by kernel_rfl) ?_)
      simp (disch := omega) only [go_sem, seval, esC, encNv_len]
      refine ⟨by omega, by omega, by omega, ?_⟩
      refine awp_seq (aCode_ok Ty.mixed _ _ _ _ (by kernel_rfl) ?_)
      simp (disch := omega) only [go_sem, seval]
      rw [zrow_U]
      have hl10 : s.heirs.length ≤ 10 := by omega
      obtain ⟨p, hp⟩ : ∃ p, p = h.length + (jj.length + 1 + 1) := ⟨_, rfl⟩
      obtain ⟨K, hK⟩ : ∃ K : List AV → List Nat → AH, K = fun cs vals => h ++ .row (esC s) 26 :: .row cs 61 :: (jj ++ [.row (encU vals) 58]) := ⟨_, rfl⟩
      have KE : ∀ cs vals, (K cs vals)[h.length]? = some (.row (esC s) 26) := fun cs vals => by rw [hK]; simp
      have KH : ∀ cs vals, (K cs vals)[h.length + 1]? = some (.row cs 61) := fun cs vals => by rw [hK]; simp only [e1]; rfl
      have KN : ∀ cs vals, (K cs vals)[p]? = some (.row (encU vals) 58) := fun cs vals => by
        rw [hK, hp]; simp only
        rw [hget_add, List.getElem?_cons_succ, List.getElem?_cons_succ, hget_zero]; rfl
      have KSH : ∀ cs vals cs', (K cs vals).set (h.length + 1) (.row cs' 61) = K cs' vals := fun cs vals cs' => by rw [hK]; simp only [e2]
      have KSN : ∀ cs vals vals', (K cs vals).set p (.row (encU vals') 58) = K cs vals' := fun cs vals vals' => by
        rw [hK, hp]; simp only
        rw [hset_add, List.set_cons_succ, List.set_cons_succ, hset_zero]; rfl
      have KD : ∀ cs vals, ∃ l, K cs vals = h ++ l := fun cs vals => by rw [hK]; exact ⟨_, rfl⟩
      have hfold : ∀ cs vals, (h ++ .row (esC s) 26 :: .row cs 61 :: (jj ++ [.row (encU vals) 58])) = K cs vals := fun cs vals => by rw [hK]
      simp only [esC] at hfold KE
      rw [hfold, ← hp]
      obtain ⟨q, hq⟩ : ∃ q, q = jj.length + 1 + 1 := ⟨_, rfl⟩
      have hpq : p = h.length + q := by rw [hp, hq]
      have fin : ∀ (a b : Int) (e : Int) (vals : List Nat) (cs : List AV), vals.length = s.never.length → EntR s (.tuple [.agg [.sl (encHs s.heirs) .free, .int .u64 a, .int .u64 b, .sl (encI s.needs) .free, .sl (encU vals) .free], .int .i64 e]) →
          ∃ q cs1 T, (K cs vals)[h.length + q]? = some (.row cs1 T) ∧ RB h.length (loose (fzV (h.length + q) cs1 (.tuple [.agg [.sl (encHs s.heirs) .free, .int .u64 a, .int .u64 b, .sl (encI s.needs) .free, .ms p 0 s.never.length s.never.length 1], .int .i64 e]))) ∧
            EntR s (loose (fzV (h.length + q) cs1 (.tuple [.agg [.sl (encHs s.heirs) .free, .int .u64 a, .int .u64 b, .sl (encI s.needs) .free, .ms p 0 s.never.length s.never.length 1], .int .i64 e]))) := fun a b e vals cs hv hE => by
        refine ⟨q, encU vals, 58, by rw [← hpq]; exact KN _ _, ?_, ?_⟩
        · rw [← hpq, fz_ent s p a b e vals hv]
          simp (disch := omega) only [go_sem, seval]
        · rw [← hpq, fz_ent s p a b e vals hv]
          simpa only [loose, looseL, loose_H, loose_I, loose_U] using hE
      have badE : ∀ (a b : Int) (vals : List Nat), 520 = checkE s → EntR s (.tuple [.agg [.sl (encHs s.heirs) .free, .int .u64 a, .int .u64 b, .sl (encI s.needs) .free, .sl (encU vals) .free], .int .i64 520]) := fun a b vals e => by
        rw [e]
        exact ⟨_, rfl, rfl, by simp [AV.one], fun e0 => by rw [e0] at e; cases e⟩
      refine awp_seq (aCode_ok Ty.mixed _ _ _ _ (by kernel_rfl) ?_)
      simp (disch := omega) only [go_sem, seval, KE]
      have cf := fun (l : List Int) (hll : l.length ≤ 9223372036854775807) (a b : Nat) (vals : List Nat) (k o : Nat) (cs : List AV) (T2 : TypeId) hk ho => pfine_calls Γ s.heirs l (h.length + 1) [.int .u64 a, .int .u64 b, .sl (encI s.needs) .free, .ms p 0 s.never.length s.never.length 1] 61 (K [.sl (encHs s.heirs) .free, .int .u64 a, .int .u64 b, .sl (encI s.needs) .free, .ms p 0 s.never.length s.never.length 1] vals) (KH _ _) hsrt hpos hl10 hll k o cs T2 hk ho
      refine ACalls.detH (cf s.members k2 0 0 _ (h.length + 1) 1 _ _ (KH _ _) (by simp)) ?_
      rw [KSH]
      simp only [List.set_cons_succ, List.set_cons_zero]
      simp (disch := omega) only [go_sem, seval]
      cases hm : hsF s.heirs none s.members with
      | false =>
        simp (disch := omega) only [go_sem, seval, KH, KE, KSH]
        exact ⟨KD _ _, .inr (fin 0 0 _ _ _ (by simp) (badE _ _ _ (no (by rw [hre, hm]; rfl))))⟩
      | true =>
      simp (disch := omega) only [go_sem, seval, KH, KE, KSH]
      refine ACalls.detH (cf s.alive k3 _ 0 _ (h.length + 1) 2 _ _ (KH _ _) (by simp)) ?_
      rw [KSH]
      simp only [List.set_cons_succ, List.set_cons_zero]
      simp (disch := omega) only [go_sem, seval]
      cases ha : hsF s.heirs none s.alive with
      | false =>
        simp (disch := omega) only [go_sem, seval, KH, KE, KSH]
        exact ⟨KD _ _, .inr (fin _ 0 _ _ _ (by simp) (badE _ _ _ (no (by rw [hre, ha]; simp))))⟩
      | true =>
      simp (disch := omega) only [go_sem, seval, KH, KE, KSH]
      rw [hm, ha] at hre
      refine awp_seq (aCode_ok Ty.mixed _ _ _ _ (by kernel_rfl) ?_)
      simp (disch := omega) only [go_sem, seval, KE, encNv_len]
      obtain ⟨cs, hcs⟩ : ∃ cs, cs = [AV.sl (encHs s.heirs) .free, .int .u64 (numN s.heirs s.members), .int .u64 (numN s.heirs s.alive), .sl (encI s.needs) .free, .ms p 0 s.never.length s.never.length 1] := ⟨_, rfl⟩
      rw [← hcs]
      refine awp_loopL (β := List (List Int)) s.never [1, 2, 7, 113, 114, 115] (fun don _ => [(1, .ptr (some (h.length, 0))), (2, .ptr (some (h.length + 1, 0))), (7, .func 45 [] [.ptr (some (h.length + 1, 0))]), (113, .sl (encNv s.never) .free), (114, .int .i64 s.never.length), (115, .int .i64 don.length)])
        (fun d => K cs (d.map (numN s.heirs) ++ List.replicate (s.never.length - d.length) 0)) (fun don _ d => d = don ∧ (∀ c ∈ don, hsF s.heirs none c = true)) [] ?_ rfl ⟨rfl, by simp⟩ Ty.mixed (by kernel_rfl) ?_ ?_
      · simp (disch := omega) only [go_sem, seval, List.length_nil]
      · rintro don x r d hd ⟨hdd, hall⟩
        rw [hdd]
        have hlen : s.never.length = don.length + 1 + r.length := by rw [hd]; simp; omega
        have en : (encNv s.never)[don.length]? = some (.sl (encI x) .free) := by rw [hd]; exact encNv_get don r x
        have hx := hs.c x (by rw [hd]; simp)
        have hvl : (don.map (numN s.heirs) ++ List.replicate (s.never.length - don.length) 0).length = s.never.length := by simp; omega
        have hKH := KH cs (don.map (numN s.heirs) ++ List.replicate (s.never.length - don.length) 0)
        have hct : cs.drop 4 = [.ms p 0 s.never.length s.never.length 1] := by rw [hcs]; rfl
        simp (disch := omega) only [go_sem, seval]
        refine aIf.pos (by omega) ?_
        simp (disch := omega) only [go_sem, seval, en, hKH, Nat.zero_add, hct]
        have hvs : (encU (don.map (numN s.heirs) ++ List.replicate (s.never.length - don.length) 0)).set don.length (.int .u64 (numN s.heirs x)) = encU ((don ++ [x]).map (numN s.heirs) ++ List.replicate (s.never.length - (don ++ [x]).length) 0) := by
          rw [encU_set]
          congr 1
          rw [List.set_append_right _ _ (by simp), List.length_map, Nat.sub_self]
          obtain ⟨m, hm⟩ : ∃ m, s.never.length - don.length = m + 1 := ⟨r.length, by omega⟩
          rw [hm, List.replicate_succ, List.set_cons_zero, List.map_append, List.append_assoc]
          congr 2
          simp; omega
        refine ⟨by omega, ?_⟩
        have cfx := cf x hx (numN s.heirs s.members) (numN s.heirs s.alive) (don.map (numN s.heirs) ++ List.replicate (s.never.length - don.length) 0) p don.length _ _ (KN _ _) (by rw [encU_len, hvl]; omega)
        rw [← hcs] at cfx
        rw [Nat.mul_one]
        refine ACalls.detH cfx ?_
        cases hxf : hsF s.heirs none x with
        | false =>
          have hz : ∀ v : Int, ∃ vals : List Nat, vals.length = s.never.length ∧ (encU (don.map (numN s.heirs) ++ List.replicate (s.never.length - don.length) 0)).set don.length (.int .u64 (if false = true then v else 0)) = encU vals := fun v => ⟨(don.map (numN s.heirs) ++ List.replicate (s.never.length - don.length) 0).set don.length 0, by simp; omega, by rw [← encU_set]; rfl⟩
          obtain ⟨vals, hv1, hv2⟩ := hz (numN s.heirs x)
          rw [hv2, KSN]
          simp (disch := omega) only [go_sem, seval]
          rw [hcs]
          simp (disch := omega) only [go_sem, seval, KH, KE, KSH]
          exact ⟨KD _ _, .inr (fin _ _ _ _ _ hv1 (badE _ _ _ (no (by rw [hre, List.all_eq_false.2 ⟨x, by rw [hd]; simp, by simp [hxf]⟩]; rfl))))⟩
        | true =>
          rw [if_pos rfl, hvs, KSN]
          simp (disch := omega) only [go_sem, seval]
          refine roundL_next (don ++ [x]) ⟨rfl, fun c hc => ?_⟩ ?_ rfl
          · rcases List.mem_append.1 hc with hc | hc
            · exact hall c hc
            · rw [List.mem_singleton] at hc; subst hc; exact hxf
          · simp (disch := omega) only [go_sem, seval, List.length_append]
      · rintro d ⟨hdd, hall⟩
        rw [hdd, Nat.sub_self, List.replicate_zero, List.append_nil]
        simp (disch := omega) only [go_sem, seval]
        refine AWP.keep [2] (aCode_ok Ty.mixed _ _ _ _ (by kernel_rfl) ?_)
        rw [hcs]
        simp (disch := omega) only [go_sem, seval, KH, KSH]
        refine ⟨KD _ _, .inr (fin _ _ _ _ _ (by simp) ?_)⟩
        have h0 : checkE s = 0 := by rw [hdef, hre, List.all_eq_true.2 hall]; rfl
        refine ⟨hsC s, by rw [h0]; rfl, rfl, by simp [hsC, AV.one], fun _ => rfl⟩
end Go.Proofs.Ytaepdkjfaeepmaa

/- The program's enough, safe. No conditions. -/
set_option linter.unusedSimpArgs false
set_option linter.unusedVariables false
namespace Go.Proofs.Ytaepdkjfaeepmaa
open Go Go.Proofs Go.Abs

theorem cntM_bits (k : Nat) : ∀ {x y i : Nat} {b : Bool}, (∀ j, y.testBit j = (x.testBit j || (decide (j = i) && b))) → x.testBit i = false → i < k → cntM y k = cntM x k + if b = true then 1 else 0 := fun {x y i b} h hx hi => by
  have low : ∀ k, k ≤ i → cntM y k = cntM x k := fun k => by
    induction k with
    | zero => intro _; rfl
    | succ k ih =>
      intro hk
      rw [cntM, cntM, ih (by omega), memI_nat, memI_nat, h k, decide_eq_false (by omega)]
      simp
  induction k with
  | zero => omega
  | succ k ih =>
    rw [cntM, cntM, memI_nat, memI_nat, h k]
    by_cases e : k = i
    · subst e
      rw [low k (Nat.le_refl _), hx]
      cases b <;> simp
    · rw [ih (by omega), decide_eq_false e]
      simp; omega
theorem cntM_high {m k : Nat} : ∀ n, k ≤ n → m < 2 ^ k → cntM m n = cntM m k := fun n => by
  induction n with
  | zero => intro h _; rw [show k = 0 by omega]
  | succ n ih =>
    intro hk hm
    by_cases e : k = n + 1
    · rw [e]
    · rw [cntM, ih (by omega) hm, memI_nat, Nat.testBit_lt_two_pow (Nat.lt_of_lt_of_le hm (Nat.pow_le_pow_right (by decide) (by omega)))]
      simp
theorem add_bit {a i : Nat} (h : a < 2 ^ i) (j : Nat) : (a + 2 ^ i).testBit j = (a.testBit j || decide (j = i)) := by
  rw [← or_pow h, Nat.testBit_or, Nat.testBit_two_pow]
  congr 1
  exact decide_eq_decide.2 eq_comm
/-- How many of some people are members: counted in bits. -/
theorem cnt_among {hs : List Hr} (hp : Srt hs) (m : Nat) (hl : hs.length ≤ 10) : ∀ (l : List Int) (o : Option Int) (a b : Nat), hsF hs o l = true → a < 2 ^ b → (∀ x, 0 ≤ heirI hs x → ltO o x = true → b ≤ (heirI hs x).toNat) →
    cntM (m &&& (a + numN hs l) : Nat) 10 = cntM (m &&& a : Nat) 10 + amongF hs m l
  | [], o, a, b, _, ha, _ => by simp [numN, amongF]
  | x :: r, o, a, b, h, ha, hi => by
    simp only [hsF, Bool.and_eq_true, decide_eq_true_eq] at h
    obtain ⟨⟨h1, h2⟩, h3⟩ := h
    have hx := hi x h1 h2
    have hlt := heirI_lt x hs
    have ha2 : a < 2 ^ (heirI hs x).toNat := Nat.lt_of_lt_of_le ha (Nat.pow_le_pow_right (by decide) hx)
    have e2 : numN hs (x :: r) = 2 ^ (heirI hs x).toNat + numN hs r := by simp [numN]
    have ih := cnt_among hp m hl r (some x) (a + 2 ^ (heirI hs x).toNat) ((heirI hs x).toNat + 1) h3 (by rw [Nat.pow_succ]; omega) fun y hy1 hy2 => heirI_mono hp h1 hy1 (by simpa [ltO] using hy2)
    have hc := cntM_bits 10 (x := m &&& a) (y := m &&& (a + 2 ^ (heirI hs x).toNat)) (i := (heirI hs x).toNat) (b := m.testBit (heirI hs x).toNat) (fun j => by
      rw [Nat.testBit_and, Nat.testBit_and, add_bit ha2]
      by_cases e : j = (heirI hs x).toNat
      · subst e; rw [decide_eq_true rfl]; simp [Nat.testBit_lt_two_pow ha2]
      · rw [decide_eq_false e]; simp) (by rw [Nat.testBit_and, Nat.testBit_lt_two_pow ha2]; simp) (by omega)
    rw [e2, ← Nat.add_assoc, ih, hc]
    have hm : memI (m : Int) (heirI hs x) = m.testBit (heirI hs x).toNat := by rw [← memI_nat, Int.toNat_of_nonneg h1]
    simp only [amongF, List.filter_cons, hm]
    cases m.testBit (heirI hs x).toNat <;> simp; omega
/-- Are these people enough? -/
def enoughF (s : Es) (m : Nat) (l : List Int) : Bool := decide (needF s m ≤ amongF s.heirs m l)
structure HsOK (s : Es) : Prop where
  srt : Srt s.heirs
  h10 : s.heirs.length ≤ 10
  n : s.needs.length = s.heirs.length + 1
  mem : hsF s.heirs none s.members = true
  al : hsF s.heirs none s.alive = true
  nev : ∀ c ∈ s.never, hsF s.heirs none c = true
  v : s.never.length ≤ 16
theorem HsOK.small {s : Es} (h : HsOK s) {m : Nat} (hm : m < 2 ^ s.heirs.length) : m < 1024 := Nat.lt_of_lt_of_le hm (Nat.pow_le_pow_right (n := 2) (by decide) h.h10)
set_option maxRecDepth 100000 in
theorem penough_calls (Γ : Nat → Option (List AV)) (s : Es) (m : Nat) (l : List Int) (i : Nat) (h : AH) (hs : HsOK s) (hi : h[i]? = some (.row (hsC s) 61)) (hm : m < 2 ^ s.heirs.length) (hl : hsF s.heirs none l = true) :
    ACalls Try.prog Γ 38 [.ptr (some (i, 0)), .int .u64 m, .int .u64 (numN s.heirs l)] h fun v h' => h' = h ∧ v = .bool (enoughF s m l) := by
  have hm1 := hs.small hm
  have hnl := hs.small (num_lt hs.srt hl).1
  have ha := bits_and m (numN s.heirs l) (by omega)
  have hand : m &&& numN s.heirs l < 1024 := Nat.lt_of_le_of_lt Nat.and_le_left hm1
  have c1 := fun h => psize_calls Γ (m &&& numN s.heirs l) h hand
  have c2 := fun h => psize_calls Γ m h hm1
  have hcnt := cnt_among hs.srt m hs.h10 l none 0 0 hl (by simp) fun _ _ _ => Nat.zero_le _
  rw [Nat.zero_add, Nat.and_zero] at hcnt
  have h00 : cntM ((0 : Nat) : Int) 10 = 0 := by decide
  rw [h00, Nat.zero_add] at hcnt
  have hcm : cntM m 10 = cntM m s.heirs.length := cntM_high 10 hs.h10 hm
  have hle := cntM_le m s.heirs.length
  have hn := hs.n
  have en : (encI s.needs)[cntM m s.heirs.length]? = some (.int .i64 (needF s m)) := by
    rw [encI, List.getElem?_map, List.getElem?_eq_getElem (by omega), needF, List.getD_eq_getElem?_getD, List.getElem?_eq_getElem (by omega)]; rfl
  rw [hcnt] at c1
  rw [hcm] at c2
  simp only [hsC] at hi
  refine acalls_code (rs := [.tmp 6]) Try.func38 rfl rfl rfl rfl Ty.mixed (by kernel_rfl) ?_
  simp (disch := omega) only [go_sem, seval, ha]
  refine aCallF.intro (fun _ => c1 _) ?_
  simp (disch := omega) only [go_sem, seval, hi]
  refine aCallF.intro (fun _ => c2 _) ?_
  simp (disch := omega) only [go_sem, seval, en, Int.toNat_natCast]
  rfl
set_option maxRecDepth 100000 in
theorem psafe1_calls (Γ : Nat → Option (List AV)) (s : Es) (m : Nat) (l : List Int) (i a b : Nat) (h : AH) (hs : HsOK s) (hi : h[i]? = some (.row (hsC s) 61)) (T1 T2 : TypeId) (ha : h[a]? = some (.row [.ptr (some (i, 0))] T1)) (hb : h[b]? = some (.row [.int .u64 m] T2)) (hm : m < 2 ^ s.heirs.length) (hl : hsF s.heirs none l = true) :
    ACalls Try.prog Γ 56 [.int .u64 (numN s.heirs l), .ptr (some (a, 0)), .ptr (some (b, 0))] h fun v h' => h' = h ∧ v = .bool (enoughF s m l) := by
  have c1 := fun h hi => penough_calls Γ s m l i h hs hi hm hl
  refine acalls_code (rs := [.tmp 4]) Try.func56 rfl rfl rfl rfl Ty.mixed (by kernel_rfl) ?_
  simp (disch := omega) only [go_sem, seval, ha, hb]
  refine ACalls.det (c1 _ hi) ?_
  simp (disch := omega) only [go_sem, seval]
set_option maxRecDepth 100000 in
theorem pindexf_calls (Γ : Nat → Option (List AV)) (s : Es) (m : Nat) (i a b : Nat) (h : AH) (hs : HsOK s) (hi : h[i]? = some (.row (hsC s) 61)) (T1 T2 : TypeId) (ha : h[a]? = some (.row [.ptr (some (i, 0))] T1)) (hb : h[b]? = some (.row [.int .u64 m] T2)) (hm : m < 2 ^ s.heirs.length) :
    ACalls Try.prog Γ 65 [.sl (encU (nevL s)) .free, .func 56 [] [.ptr (some (a, 0)), .ptr (some (b, 0))]] h fun v h' => h' = h ∧ ∃ n : Int, v = .int .i64 n ∧ -1 ≤ n ∧ n ≤ 1000 ∧ decide (0 ≤ n) = s.never.any (enoughF s m) := by
  have c1 := fun l hl => psafe1_calls Γ s m l i a b h hs hi T1 T2 ha hb hm hl
  have hv := hs.v
  have hnl : (nevL s).length = s.never.length := by simp [nevL]
  refine acalls_code (rs := [.tmp 4]) Try.func65 rfl rfl rfl rfl Ty.mixed (by kernel_rfl) ?_
  simp (disch := omega) only [go_sem, seval, encU_len, hnl]
  refine awp_loopL (β := Unit) s.never [0, 1, 6, 7, 8] (fun don _ => [(0, .sl (encU (nevL s)) .free), (1, .func 56 [] [.ptr (some (a, 0)), .ptr (some (b, 0))]), (6, .sl (encU (nevL s)) .free), (7, .int .i64 s.never.length), (8, .int .i64 don.length)]) (fun _ => h)
    (fun don _ _ => ∀ c ∈ don, enoughF s m c = false) () ?_ rfl (by simp) Ty.mixed (by kernel_rfl) ?_ ?_
  · simp (disch := omega) only [go_sem, seval, List.length_nil]
  · rintro don x r _ hd hall
    have hlen : s.never.length = don.length + 1 + r.length := by rw [hd]; simp; omega
    have e1 : (encU (nevL s))[don.length]? = some (.int .u64 (numN s.heirs x)) := by simp [encU, nevL, hd]
    simp (disch := omega) only [go_sem, seval]
    refine aIf.pos (by omega) ?_
    simp (disch := omega) only [go_sem, seval, e1, Int.toNat_natCast]
    refine ACalls.det (c1 x (hs.nev x (by rw [hd]; simp))) ?_
    simp (disch := omega) only [go_sem, seval]
    cases hx : enoughF s m x with
    | true =>
      simp (disch := omega) only [go_sem, seval]
      refine ⟨_, rfl, by omega, by omega, ?_⟩
      rw [decide_eq_true (by omega), List.any_eq_true.2 ⟨x, by rw [hd]; simp, hx⟩]
    | false =>
      simp (disch := omega) only [go_sem, seval]
      refine roundL_next () ?_ ?_ rfl
      · intro c hc
        rcases List.mem_append.1 hc with hc | hc
        · exact hall c hc
        · rw [List.mem_singleton] at hc; subst hc; exact hx
      · simp (disch := omega) only [go_sem, seval, List.length_append]
  · rintro _ hall
    simp (disch := omega) only [go_sem, seval]
    refine AWP.keep [] (aCode_ok Ty.mixed _ _ _ _ (by kernel_rfl) ?_)
    simp (disch := omega) only [go_sem, seval]
    refine ⟨_, rfl, by omega, by omega, ?_⟩
    rw [List.any_eq_false.2 fun c hc => by rw [hall c hc]; simp]
    rfl
theorem pcontainsf_calls (Γ : Nat → Option (List AV)) (s : Es) (m : Nat) (i a b : Nat) (h : AH) (hs : HsOK s) (hi : h[i]? = some (.row (hsC s) 61)) (T1 T2 : TypeId) (ha : h[a]? = some (.row [.ptr (some (i, 0))] T1)) (hb : h[b]? = some (.row [.int .u64 m] T2)) (hm : m < 2 ^ s.heirs.length) :
    ACalls Try.prog Γ 55 [.sl (encU (nevL s)) .free, .func 56 [] [.ptr (some (a, 0)), .ptr (some (b, 0))]] h fun v h' => h' = h ∧ v = .bool (s.never.any (enoughF s m)) := by
  refine acalls_code (rs := [.tmp 4]) Try.func55 rfl rfl rfl rfl Ty.mixed (by kernel_rfl) ?_
  simp (disch := omega) only [go_sem, seval]
  refine ACalls.then (pindexf_calls Γ s m i a b h hs hi T1 T2 ha hb hm) ?_
  rintro v _ ⟨rfl, n, rfl, _, _, hn⟩
  simp (disch := omega) only [go_sem, seval]
  rw [hn]
theorem safe_any (s : Es) (m : Nat) : safeF s m = !s.never.any (enoughF s m) := by
  rw [List.not_any_eq_all_not]
  unfold safeF
  congr 1
  funext c
  unfold enoughF
  rw [← decide_not]
  exact decide_eq_decide.2 (by omega)
set_option maxRecDepth 100000 in
theorem psafe_calls (Γ : Nat → Option (List AV)) (s : Es) (m : Nat) (i : Nat) (h : AH) (hs : HsOK s) (hi : h[i]? = some (.row (hsC s) 61)) (hm : m < 2 ^ s.heirs.length) :
    ACalls Try.prog Γ 37 [.ptr (some (i, 0)), .int .u64 m] h fun v h' => h' = h ∧ v = .bool (safeF s m) := by
  refine ACalls.drop ?_
  have hil := (List.getElem?_eq_some_iff.1 hi).1
  have hi2 : ∀ k, (h ++ k)[i]? = some (.row (hsC s) 61) := fun k => by rw [List.getElem?_append_left hil]; exact hi
  have c1 := fun a b k T1 T2 ha hb => pcontainsf_calls Γ s m i a b (h ++ k) hs (hi2 k) T1 T2 ha hb hm
  have hi3 := hi2
  simp only [hsC] at hi3
  refine acalls_code (rs := [.tmp 4]) Try.func37 rfl rfl rfl rfl Ty.mixed (by kernel_rfl) ?_
  simp (disch := omega) only [go_sem, seval, hi3]
  refine ACalls.det (c1 _ _ _ 92 58 (by simp) (by simp)) ?_
  simp (disch := omega) only [go_sem, seval]
  rw [safe_any]
end Go.Proofs.Ytaepdkjfaeepmaa
