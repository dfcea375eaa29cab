/- Texts joined: MinG, MinH, MinI, MinJ. No conditions. -/
import Derived.Test.YtnioapinljedmaaMrP
import Derived.Test.YtnioapinljedmaaMrQ
/- The program's Sets and Blocks. No conditions. -/
set_option linter.unusedSimpArgs false
set_option linter.unusedVariables false
namespace Go.Proofs.Ytnioapinljedmaa
open Go Go.Proofs Go.Abs

set_option maxRecDepth 100000 in
theorem psets_calls (Γ : Nat → Option (List AV)) (g : Gt) (h : AH) (hs : Sh g) :
    ACalls Try.prog Γ 32 [encG g] h fun v h' => h' = h ∧ v = encS (smallR g false) := by
  cases g with | mk p n l =>
  have c0 := fun h => ask_calls Γ (.mk p n l) h hs
  rw [encS, smallR]
  generalize hG : (Gt.mk p n l) = G at *
  have eG : encG G = .agg [.int .i64 p, .int .i64 n, .sl (l.map encG) .free] := by rw [← hG, encG_mk]
  rw [eG] at c0 ⊢
  rw [askV] at c0
  refine ACalls.dropL ?_
  refine acalls_code (rs := [.tmp 2, .tmp 3]) Try.func32 rfl rfl rfl rfl Ty.mixed (by kernel_rfl) ?_
  simp (disch := omega) only [go_sem, seval]
  by_cases he : errF G = 0
  · rw [if_pos he] at c0 ⊢
    obtain ⟨hck, hlv, hpn⟩ := errF_facts he
    have c1 := fun h => all_calls24 Γ G (holdP G) _ _ _ h hck hpn (hold_mono hck) (fine_ask hpn)
    rw [qV] at c0 c1
    refine ACalls.det (c0 _) ?_
    simp (disch := omega) only [go_sem, seval]
    refine ACalls.det (c1 _) ?_
    simp (disch := omega) only [go_sem, seval]
    rw [show fineF G false = holdP G from rfl]
    split <;> rfl
  · rw [if_neg he] at c0 ⊢
    rw [q0V] at c0
    refine ACalls.det (c0 _) ?_
    simp (disch := omega) only [go_sem, seval]
    refine aIf.neg he ?_
    simp (disch := omega) only [go_sem, seval]
    rfl
set_option maxRecDepth 100000 in
theorem pblks_calls (Γ : Nat → Option (List AV)) (g : Gt) (h : AH) (hs : Sh g) :
    ACalls Try.prog Γ 34 [encG g] h fun v h' => h' = h ∧ v = encS (smallR g true) := by
  cases g with | mk p n l =>
  have c0 := fun h => ask_calls Γ (.mk p n l) h hs
  rw [encS, smallR]
  generalize hG : (Gt.mk p n l) = G at *
  have eG : encG G = .agg [.int .i64 p, .int .i64 n, .sl (l.map encG) .free] := by rw [← hG, encG_mk]
  rw [eG] at c0 ⊢
  rw [askV] at c0
  refine ACalls.dropL ?_
  refine acalls_code (rs := [.tmp 2, .tmp 3]) Try.func34 rfl rfl rfl rfl Ty.mixed (by kernel_rfl) ?_
  simp (disch := omega) only [go_sem, seval]
  by_cases he : errF G = 0
  · rw [if_pos he] at c0 ⊢
    obtain ⟨hck, hlv, hpn⟩ := errF_facts he
    have c1 := fun h => all_calls24 Γ G (blkP G) _ _ _ h hck hpn (blk_mono hck) (fine_blk hck hpn)
    rw [qV] at c0 c1
    refine ACalls.det (c0 _) ?_
    simp (disch := omega) only [go_sem, seval]
    refine ACalls.det (c1 _) ?_
    simp (disch := omega) only [go_sem, seval]
    rw [show fineF G true = blkP G from rfl]
    split <;> rfl
  · rw [if_neg he] at c0 ⊢
    rw [q0V] at c0
    refine ACalls.det (c0 _) ?_
    simp (disch := omega) only [go_sem, seval]
    refine aIf.neg he ?_
    simp (disch := omega) only [go_sem, seval]
    rfl
end Go.Proofs.Ytnioapinljedmaa

/- The program's reading of lists as sets. No conditions. -/
set_option linter.unusedSimpArgs false
set_option linter.unusedVariables false
namespace Go.Proofs.Ytnioapinljedmaa
open Go Go.Proofs Go.Abs

theorem pw_get {P : List Int} (hP : P.Pairwise (· < ·)) {a b : Nat} {u v : Int} (ha : P[a]? = some u) (hb : P[b]? = some v) (h : a < b) : u < v := by
  obtain ⟨ha1, rfl⟩ := List.getElem?_eq_some_iff.1 ha
  obtain ⟨hb1, rfl⟩ := List.getElem?_eq_some_iff.1 hb
  exact List.pairwise_iff_getElem.1 hP a b ha1 hb1 h
theorem isnanS_calls (Γ : Nat → Option (List AV)) (x : Int) (h : AH) : ACalls Try.prog Γ 118 [.int .i64 x] h fun v h' => h' = h ∧ v = .bool false := by
  refine ACalls.drop ?_
  refine acalls_code (rs := [.tmp 2]) Try.func118 rfl rfl rfl rfl Ty.mixed (by kernel_rfl) ?_
  simp (disch := omega) only [go_sem, seval]
set_option maxRecDepth 100000 in
theorem bsearch_calls (Γ : Nat → Option (List AV)) (P : List Int) (x : Int) (h : AH) (hP : P.Pairwise (· < ·)) (hl : P.length ≤ 1000) :
    ACalls Try.prog Γ 99 [.sl (encI P) .free, .int .i64 x] h fun v h' => h' = h ∧ ∃ k : Nat, v = .tuple [.int .i64 k, .bool (decide (x ∈ P))] ∧ (x ∈ P → P[k]? = some x) := by
  refine acalls_code (rs := [.tmp 4, .tmp 5]) Try.func99 rfl rfl rfl rfl Ty.mixed (by kernel_rfl) ?_
  simp (disch := omega) only [go_sem, seval, encI_len]
  refine awp_loopS (α := Nat × Nat) [0, 1, 6, 7, 8] (fun s => [(0, .sl (encI P) .free), (1, .int .i64 x), (6, .int .i64 P.length), (7, .int .i64 s.1), (8, .int .i64 s.2)]) (fun _ => h)
    (fun s => s.1 ≤ s.2 ∧ s.2 ≤ P.length ∧ (∀ k y, P[k]? = some y → k < s.1 → y < x) ∧ ∀ k y, P[k]? = some y → s.2 ≤ k → x ≤ y) (fun s => s.2 - s.1) (0, P.length) ?_ rfl ⟨by simp, by simp, by simp, fun k y e hk => by have := (List.getElem?_eq_some_iff.1 e).1; omega⟩ Ty.mixed (by kernel_rfl) ?_
  · simp (disch := omega) only [go_sem, seval]
  rintro ⟨i, j⟩ ⟨h1, h2, h3, h4⟩
  simp only at h1 h2 h3 h4 ⊢
  simp (disch := omega) only [go_sem, seval]
  refine aIf.intro (fun hij => ?_) (fun hij => ?_) <;> simp (disch := omega) only [go_sem, seval]
  · obtain ⟨m, hm⟩ : ∃ m, m = (i + j) / 2 := ⟨_, rfl⟩
    have hmid : IntKind.i64.wrap ((IntKind.u64.wrap ((i : Int) + (j : Int))).fdiv (2 ^ min 1 64)) = (m : Int) := by
      rw [show ((i : Int) + (j : Int)) = ((i + j : Nat) : Int) from by omega, IntWalk.u64_in _ ⟨by omega, by omega⟩, show min 1 64 = 1 from rfl, fdiv_pow, IntWalk.i64_in _ ⟨by omega, by omega⟩, hm]
    have hmi : i ≤ m := by omega
    have hmj : m < j := by omega
    obtain ⟨y, hy⟩ : ∃ y, P[m]? = some y := ⟨P[m]'(by omega), by simp⟩
    have e1 : (encI P)[m]? = some (.int .i64 y) := by rw [encI, List.getElem?_map, hy]; rfl
    rw [hmid]
    simp (disch := omega) only [go_sem, seval, encI_len, e1]
    refine ACalls.det (less_calls Γ y x _) ?_
    simp (disch := omega) only [go_sem, seval]
    refine aIf.intro (fun hyx => ?_) (fun hyx => ?_) <;> simp (disch := omega) only [go_sem, seval]
    · refine roundS_next (m + 1, j) (by simp only; omega) ⟨by simp only; omega, h2, fun k z e hk => ?_, h4⟩ ?_ rfl
      · simp only at hk
        rcases Nat.lt_or_ge k m with hkm | hkm
        · have := pw_get hP e hy hkm; omega
        · have : k = m := by omega
          subst this; rw [hy] at e; cases e; exact hyx
      · simp (disch := omega) only [go_sem, seval]
    · refine roundS_next (i, m) (by simp only; omega) ⟨hmi, by simp only; omega, h3, fun k z e hk => ?_⟩ ?_ rfl
      · simp only at hk
        rcases Nat.lt_or_ge m k with hkm | hkm
        · have := pw_get hP hy e hkm; omega
        · have : k = m := by omega
          subst this; rw [hy] at e; cases e; omega
      · simp (disch := omega) only [go_sem, seval]
  · have hij2 : i = j := by omega
    subst hij2
    refine AWP.keep [0, 1, 6, 7] (aCode_ok Ty.mixed _ _ _ _ (by kernel_rfl) ?_)
    simp (disch := omega) only [go_sem, seval]
    refine aIf.intro (fun hi => ?_) (fun hi => ?_) <;> simp (disch := omega) only [go_sem, seval]
    · obtain ⟨y, hy⟩ : ∃ y, P[i]? = some y := ⟨P[i]'(by omega), by simp⟩
      have e1 : (encI P)[i]? = some (.int .i64 y) := by rw [encI, List.getElem?_map, hy]; rfl
      simp (disch := omega) only [go_sem, seval, encI_len, e1]
      refine aIf.intro (fun hyx => ?_) (fun hyx => ?_) <;> simp (disch := omega) only [go_sem, seval]
      · subst hyx
        have hmem : y ∈ P := List.mem_of_getElem? hy
        refine ⟨i, ?_, fun _ => hy⟩
        rw [decide_eq_true hmem]
      · simp (disch := omega) only [go_sem, seval, encI_len, e1]
        refine ACalls.det (isnanS_calls Γ y _) ?_
        simp (disch := omega) only [go_sem, seval]
        have hnm : x ∉ P := fun hx => by
          obtain ⟨k, hk, rfl⟩ := List.mem_iff_getElem.1 hx
          have hk' : P[k]? = some P[k] := by simp [hk]
          rcases Nat.lt_trichotomy k i with c | c | c
          · have := h3 k _ hk' c; omega
          · subst c; rw [hk'] at hy; cases hy; exact hyx rfl
          · have := h4 i _ hy (Nat.le_refl _)
            have := pw_get hP hy hk' c; omega
        refine ⟨i, ?_, fun e => absurd e hnm⟩
        rw [decide_eq_false hnm]
    · have hnm : x ∉ P := fun hx => by
        obtain ⟨k, hk, rfl⟩ := List.mem_iff_getElem.1 hx
        have hk' : P[k]? = some P[k] := by simp [hk]
        have := h3 k _ hk' (by omega); omega
      refine ⟨i, ?_, fun e => absurd e hnm⟩
      rw [decide_eq_false hnm]
/-- What is looked at, person by person. -/
def chkF (P : List Int) : Int → List Int → Bool
  | _, [] => true
  | last, p :: r => decide (p ∈ P) && decide (last < p) && chkF P p r
theorem chk_iff (P : List Int) : ∀ (s : List Int) (last : Int), chkF P last s = true ↔ (∀ x ∈ s, x ∈ P) ∧ s.Pairwise (· < ·) ∧ ∀ x ∈ s, last < x
  | [], last => by simp [chkF]
  | p :: r, last => by
    rw [chkF, Bool.and_eq_true, Bool.and_eq_true, decide_eq_true_eq, decide_eq_true_eq, chk_iff P r p]
    simp only [List.mem_cons, forall_eq_or_imp]
    constructor
    · rintro ⟨⟨h1, h2⟩, h3, h4, h5⟩
      exact ⟨⟨h1, h3⟩, List.pairwise_cons.2 ⟨h5, h4⟩, h2, fun x hx => by have := h5 x hx; omega⟩
    · rintro ⟨⟨h1, h2⟩, h3, h4, h5⟩
      rw [List.pairwise_cons] at h3
      exact ⟨⟨h1, h4⟩, h2, h3.2, h3.1⟩
theorem chk_inc {P : List Int} (hP : ∀ x ∈ P, -1 < x) (s : List Int) : chkF P (-1) s = (incF s && decide (∀ x ∈ s, x ∈ P)) := by
  rw [Bool.eq_iff_iff, chk_iff, Bool.and_eq_true, incF_iff, decide_eq_true_eq]
  exact ⟨fun h => ⟨h.2.1, h.1⟩, fun h => ⟨h.2, h.1, fun x hx => hP x (h.2 x hx)⟩⟩
theorem or_lt {a b n : Nat} (ha : a < 2 ^ n) (hb : b < 2 ^ n) : a ||| b < 2 ^ n := Nat.or_lt_two_pow ha hb
theorem listF_or {P : List Int} (hP : P.Pairwise (· < ·)) {d : List Int} {m k : Nat} {p : Int} (hd : listF P m = d) (hk : P[k]? = some p) (hlt : ∀ x ∈ d, x < p) : listF P (m ||| 2 ^ k) = d ++ [p] := by
  have hn := pw_nodup hP
  refine lt_eq (hP.sublist (listF_sub _ _)) ?_ fun x => ?_
  · rw [List.pairwise_append]
    refine ⟨by rw [← hd]; exact hP.sublist (listF_sub _ _), by simp, fun a ha b hb => ?_⟩
    rw [List.mem_singleton] at hb; subst hb; exact hlt a ha
  · rw [List.mem_append, List.mem_singleton, ← hd]
    constructor
    · intro hx
      obtain ⟨j, hj, rfl⟩ := List.mem_iff_getElem.1 ((listF_sub P _).subset hx)
      have hj' : P[j]? = some P[j] := by simp [hj]
      rw [mem_bit hn hj', Nat.testBit_or, Bool.or_eq_true, pow_bit2] at hx
      rcases hx with hx | hx
      · exact .inl ((mem_bit hn hj').2 hx)
      · simp at hx; subst hx; rw [hj'] at hk; cases hk; exact .inr rfl
    · rintro (hx | rfl)
      · obtain ⟨j, hj, rfl⟩ := List.mem_iff_getElem.1 ((listF_sub P _).subset hx)
        have hj' : P[j]? = some P[j] := by simp [hj]
        rw [mem_bit hn hj'] at hx ⊢
        rw [Nat.testBit_or, hx]; rfl
      · rw [mem_bit hn hk, Nat.testBit_or, pow_bit2]; simp
theorem or_u64 (m k n : Nat) (hn : n ≤ 12) (hm : m < 2 ^ n) (hk : k < n) : bitsOp .or .u64 (m : Int) ((2 ^ k : Nat) : Int) = (m ||| 2 ^ k : Nat) := by
  have h1 := pow12 hn
  have h2 : 2 ^ k < 2 ^ n := Nat.pow_lt_pow_right (by decide) hk
  have h3 := or_lt hm h2
  show IntKind.u64.wrap ((BitVec.ofInt 64 (m : Int) ||| BitVec.ofInt 64 ((2 ^ k : Nat) : Int)).toNat : Int) = _
  rw [BitVec.ofInt_natCast, BitVec.ofInt_natCast, BitVec.toNat_or, BitVec.toNat_ofNat, BitVec.toNat_ofNat, Nat.mod_eq_of_lt (by omega), Nat.mod_eq_of_lt (by omega)]
  exact IntWalk.u64_in _ ⟨by omega, by omega⟩
end Go.Proofs.Ytnioapinljedmaa

/- The program's Agree. No conditions. -/
set_option linter.unusedSimpArgs false
set_option linter.unusedVariables false
namespace Go.Proofs.Ytnioapinljedmaa
open Go Go.Proofs Go.Abs

structure StS where
  x : List Nat
  own : Abs.Own
  j : AH
def lastI (d : List Int) : Int := match d.getLast? with
  | some p => p
  | none => -1
theorem lastI_snoc (d : List Int) (p : Int) : lastI (d ++ [p]) = p := by simp [lastI]
theorem lastI_lt {d : List Int} (h : d.Pairwise (· < ·)) {p : Int} (hp : lastI d < p) : ∀ x ∈ d, x < p := by
  rcases List.eq_nil_or_concat d with rfl | ⟨d0, y, rfl⟩
  · simp
  · rw [List.concat_eq_append, lastI_snoc] at hp
    rw [List.concat_eq_append, List.pairwise_append] at h
    intro x hx
    rw [List.concat_eq_append] at hx
    rcases List.mem_append.1 hx with hx | hx
    · have := h.2.2 x hx y (by simp); omega
    · rw [List.mem_singleton] at hx; omega
def setsOK (g : Gt) (fine : List Int → Bool) (don l : List (List Int)) : Bool := ordF (pplF g) don l && l.all fine
set_option maxRecDepth 100000 in
theorem sets_calls (Γ : Nat → Option (List AV)) (g : Gt) (fine : List Int → Bool) (fn : FuncId) (fs cs : List AV) (l : List (List Int)) (h : AH) (hck : checkF g = 0) (hn : (pplF g).length ≤ 12) (hf : FineV g fine fn fs cs) (hl : l.length ≤ 1000000) (hbl : ∀ s ∈ l, s.length ≤ 9223372036854775807) :
    ACalls Try.prog Γ 69 [qV g, .sl (encII l) .free, .func fn fs cs] h fun v h' => h' = h ∧ ∃ xs : List Nat, v = .tuple [.sl (encU xs) .free, .bool (setsOK g fine [] l)] ∧ (setsOK g fine [] l = true → xs.map (listF (pplF g)) = l ∧ ∀ x ∈ xs, x < 2 ^ (pplF g).length) := by
  have hP := ppl_lt hck
  have hp := pow12 hn
  have hp1 : 1 ≤ 2 ^ (pplF g).length := Nat.one_le_two_pow
  have hpos : ∀ x ∈ pplF g, -1 < x := fun x hx => (((ascF_iff _ _).1 (asc_ppl (checkF_right hck))).2 x hx).1
  obtain ⟨N, hN⟩ : ∃ N : Nat, N = 2 ^ (pplF g).length := ⟨_, rfl⟩
  refine ACalls.dropL ?_
  rw [qV]
  rw [← hN] at hp hp1 ⊢
  refine acalls_code (rs := [.tmp 6, .tmp 7]) Try.func69 rfl rfl rfl rfl Ty.mixed (by kernel_rfl) ?_
  simp (disch := omega) only [go_sem, seval]
  obtain ⟨K, hK⟩ : ∃ K : AH, K = h ++ [.row [.sl (encI (pplF g)) .free, .int .u64 ((N - 1 : Nat) : Int), .func 94 [] [.eptr [.sl (knownV g) .free]]] 80] := ⟨_, rfl⟩
  have KD : ∀ j : AH, ∃ l, K ++ j = h ++ l := by subst hK; intro j; exact ⟨_, List.append_assoc ..⟩
  have Kq : ∀ j : AH, (K ++ j)[h.length]? = some (.row [.sl (encI (pplF g)) .free, .int .u64 ((N - 1 : Nat) : Int), .func 94 [] [.eptr [.sl (knownV g) .free]]] 80) := by subst hK; simp
  refine awp_loopL (β := StS) l [1, 2, 3, 6, 16, 17, 18] (fun don s => [(1, .sl (encII l) .free), (2, .func fn fs cs), (3, .ptr (some (h.length, 0))), (6, .sl (encU s.x) s.own), (16, .sl (encII l) .free), (17, .int .i64 l.length), (18, .int .i64 don.length)])
    (fun s => K ++ s.j) (fun don rest s => OwnAt K s.j s.x.length s.own ∧ s.x.map (listF (pplF g)) = don ∧ (∀ x ∈ s.x, x < N) ∧ setsOK g fine [] l = setsOK g fine don rest ∧ ∀ s ∈ don, s.length ≤ 12) ⟨[], .full, []⟩ ?_ (by simp [hK]) ⟨trivial, rfl, by simp, rfl, by simp⟩ Ty.mixed (by kernel_rfl) ?_ ?_
  · simp (disch := omega) only [go_sem, seval, encII_len]
    rfl
  · rintro don s r ⟨x, own, j⟩ hd ⟨ho, hx1, hx2, hx3, hx4⟩
    simp only at ho hx1 hx2 hx3 hx4 ⊢
    have hlen : l.length = don.length + (r.length + 1) := by rw [hd]; simp
    have e1 : (encII l)[don.length]? = some (.sl (encI s) .free) := by rw [hd]; exact encII_get don r s
    have hsl := hbl s (by rw [hd]; simp)
    have hxl : x.length = don.length := by rw [← hx1, List.length_map]
    have hsplit : setsOK g fine don (s :: r) = ((chkF (pplF g) (-1) s && befL don s && don.all fun t => !decide (∀ y ∈ t, y ∈ s)) && fine s && setsOK g fine (don ++ [s]) r) := by
      rw [setsOK, setsOK, ordF, stepF, chk_inc hpos, List.all_cons]
      cases incF s && decide (∀ y ∈ s, y ∈ pplF g) <;> cases befL don s <;> cases (don.all fun t => !decide (∀ y ∈ t, y ∈ s)) <;> cases fine s <;> cases ordF (pplF g) (don ++ [s]) r <;> cases r.all fine <;> rfl
    rw [hsplit] at hx3
    simp (disch := omega) only [go_sem, seval, encII_len]
    rw [hlen]
    refine aIf.pos (by omega) ?_
    simp (disch := omega) only [go_sem, seval, e1, encI_len]
    refine awp_loopL (β := Nat) s [1, 2, 3, 6, 8, 9, 10, 11, 16, 17, 18, 23, 24, 25] (fun d m => [(1, .sl (encII l) .free), (2, .func fn fs cs), (3, .ptr (some (h.length, 0))), (6, .sl (encU x) own), (8, .int .i64 don.length), (9, .sl (encI s) .free), (10, .int .u64 m), (11, .int .i64 (lastI d)), (16, .sl (encII l) .free), (17, .int .i64 (don.length + (r.length + 1))), (18, .int .i64 don.length), (23, .sl (encI s) .free), (24, .int .i64 s.length), (25, .int .i64 d.length)])
      (fun _ => K ++ j) (fun d rest m => m < N ∧ listF (pplF g) m = d ∧ d.Pairwise (· < ·) ∧ chkF (pplF g) (-1) s = chkF (pplF g) (lastI d) rest) 0 ?_ rfl ⟨by omega, ?_, .nil, rfl⟩ Ty.mixed (by kernel_rfl) ?_ ?_
    · simp (disch := omega) only [go_sem, seval]
      rfl
    · have : ∀ P : List Int, listF P 0 = [] := fun P => by
        induction P with
        | nil => rfl
        | cons y P ih => rw [listF, if_neg (by decide), Nat.zero_div, ih]
      exact this _
    · rintro d p q m hdq ⟨hm1, hm2, hm3, hm4⟩
      have hdl : s.length = d.length + 1 + q.length := by rw [hdq]; simp; omega
      have e2 : (encI s)[d.length]? = some (.int .i64 p) := by rw [hdq]; simp [encI]
      rw [chkF] at hm4
      simp (disch := omega) only [go_sem, seval]
      refine aIf.pos (by omega) ?_
      simp (disch := omega) only [go_sem, seval, e2, Kq]
      refine ACalls.then (bsearch_calls Γ (pplF g) p _ hP (by omega)) ?_
      rintro _ _ ⟨rfl, k, rfl, hk⟩
      simp (disch := omega) only [go_sem, seval]
      have KDj := KD j
      refine aIf.intro (fun hmem => ?_) (fun hmem => ?_) <;> simp (disch := omega) only [go_sem, seval]
      rotate_left
      · have hf1 : setsOK g fine [] l = false := by rw [hx3, hm4, decide_eq_false hmem]; rfl
        exact ⟨KDj, [], by rw [hf1]; rfl, fun e => by rw [hf1] at e; cases e⟩
      have hk := hk hmem
      have hkl := (List.getElem?_eq_some_iff.1 hk).1
      refine aIf.intro (fun hle => ?_) (fun hle => ?_) <;> simp (disch := omega) only [go_sem, seval]
      · have hf1 : setsOK g fine [] l = false := by rw [hx3, hm4, decide_eq_false (show ¬ lastI d < p by omega), Bool.and_false]; rfl
        exact ⟨KDj, [], by rw [hf1]; rfl, fun e => by rw [hf1] at e; cases e⟩
      have hshl : IntKind.u64.wrap (1 * 2 ^ min k 64) = ((2 ^ k : Nat) : Int) := by
        have e : (1 * 2 ^ min k 64 : Int) = ((2 ^ k : Nat) : Int) := by rw [Nat.min_eq_left (by omega), Int.one_mul]; simp
        have := pow12 (n := k) (by omega)
        rw [e]
        generalize (2 ^ k : Nat) = M at this ⊢
        exact IntWalk.u64_in _ ⟨by omega, by omega⟩
      have hlt := lastI_lt hm3 (show lastI d < p by omega)
      have hor : m ||| 2 ^ k < N := by rw [hN]; exact or_lt (by rw [← hN]; exact hm1) (Nat.pow_lt_pow_right (by decide) hkl)
      rw [hshl, or_u64 m k (pplF g).length hn (by rw [← hN]; exact hm1) hkl]
      refine roundL_next (m ||| 2 ^ k) ⟨hor, listF_or hP hm2 hk hlt, ?_, ?_⟩ ?_ rfl
      · rw [List.pairwise_append]; exact ⟨hm3, by simp, fun a ha b hb => by rw [List.mem_singleton] at hb; subst hb; exact hlt a ha⟩
      · rw [hm4, decide_eq_true hmem, decide_eq_true (show lastI d < p by omega), lastI_snoc]; rfl
      · simp (disch := omega) only [go_sem, seval, List.length_append, lastI_snoc]
    · rintro m ⟨hm1, hm2, hm3, hm4⟩
      have hchk : chkF (pplF g) (-1) s = true := hm4
      rw [hchk, Bool.true_and] at hx3
      have hsl12 : s.length ≤ 12 := by have := (listF_sub (pplF g) m).length_le; rw [hm2] at this; omega
      have cf := fun h => hf.calls Γ m h (by omega)
      rw [hm2] at cf
      generalize hfs : fine s = b at cf hx3
      simp (disch := omega) only [go_sem, seval]
      refine AWP.keep [1, 2, 3, 6, 8, 9, 10, 16, 17, 18] (aCode_ok Ty.mixed _ _ _ _ (by kernel_rfl) ?_)
      simp (disch := omega) only [go_sem, seval]
      have KDj := KD j
      refine ACalls.det ((cf _).args (by simp)) ?_
      simp (disch := omega) only [go_sem, seval]
      have fail : setsOK g fine [] l = false → ∃ xs : List Nat, AV.tuple [.sl (encU []) .free, .bool false] = .tuple [.sl (encU xs) .free, .bool (setsOK g fine [] l)] ∧ (setsOK g fine [] l = true → xs.map (listF (pplF g)) = l ∧ ∀ x ∈ xs, x < N) := fun e => ⟨[], by rw [e], fun e' => by rw [e] at e'; cases e'⟩
      cases b with
      | false =>
        simp (disch := omega) only [go_sem, seval]
        exact ⟨KDj, fail (by rw [hx3, Bool.and_false, Bool.false_and])⟩
      | true =>
        rw [Bool.and_true] at hx3
        have cu := fun h => containsU_calls Γ (pplF g) x m h hn hP (by rw [← hN]; exact hm1) (fun y hy => by rw [← hN]; exact hx2 y hy) (by omega)
        rw [hm2, hx1] at cu
        have hany : (don.all fun t => !decide (∀ y ∈ t, y ∈ s)) = !someF don s := by rw [someF, List.not_any_eq_all_not]
        rw [hany] at hx3
        generalize hso : someF don s = bs at cu hx3
        simp (disch := omega) only [go_sem, seval]
        refine aIf.intro (fun hi => ?_) (fun hi => ?_)
        focus
          obtain ⟨t, ht⟩ : ∃ t, don.getLast? = some t := by
            cases hg : don.getLast? with
            | some t => exact ⟨t, rfl⟩
            | none => rw [List.getLast?_eq_none_iff] at hg; subst hg; simp at hi
          have hbt2 : befL don s = beforeF t s := by rw [befL, ht]
          obtain ⟨d0, rfl⟩ : ∃ d0, don = d0 ++ [t] := by
            rcases List.eq_nil_or_concat don with rfl | ⟨d0, y, rfl⟩
            · simp at ht
            · rw [List.concat_eq_append] at ht ⊢
              rw [List.getLast?_append] at ht
              simp at ht; subst ht; exact ⟨d0, rfl⟩
          have e0 : (encII l)[d0.length]? = some (.sl (encI t) .free) := by rw [hd, List.append_assoc]; exact encII_get d0 _ t
          have htl := hx4 t (by simp)
          have cc := fun h => cmpF_calls Γ t s h (by omega) (by omega)
          simp only [List.length_append, List.length_cons, List.length_nil] at e1 hxl hlen
          simp (disch := omega) only [go_sem, seval, List.length_append, List.length_cons, List.length_nil, e0]
          refine ACalls.det (cc _) ?_
          simp (disch := omega) only [go_sem, seval]
          refine aIf.intro (fun hcm => ?_) (fun hcm => ?_)
          focus
            have hbt : befL (d0 ++ [t]) s = false := by
              rw [hbt2]
              cases hb : beforeF t s with
              | false => rfl
              | true => have := (cmp_bef t s).2 hb; omega
            simp (disch := omega) only [go_sem, seval]
            exact ⟨KDj, fail (by rw [hx3, hbt, Bool.false_and, Bool.false_and])⟩
          have hbt : befL (d0 ++ [t]) s = true := by rw [hbt2, ← cmp_bef]; omega
          simp (disch := omega) only [go_sem, seval]
        rotate_left
        focus
          have hbt : befL don s = true := by
            have : don = [] := List.length_eq_zero_iff.1 (by omega)
            rw [this]; rfl
          simp (disch := omega) only [go_sem, seval]
        all_goals
          refine ACalls.det (ACalls.ofLoose (cu _) (by simp (disch := omega) only [go_sem, seval, loose, looseL])) ?_
          simp (disch := omega) only [go_sem, seval]
          cases bs with
          | true => simp (disch := omega) only [go_sem, seval]; exact ⟨KDj, fail (by rw [hx3, hbt]; rfl)⟩
          | false =>
            simp (disch := omega) only [go_sem, seval]
            refine aAp_sl (by rw [encU_len]; exact ho) (rowsOK_U _) (rowsOK_U [m]) (by simp [encU_len]; omega) (by simp [encU_len]; omega) fun j3 own3 ho3 hg => ?_
            simp (disch := omega) only [go_sem, seval]
            refine AWP.keep [1, 2, 3, 6, 16, 17, 18] (aCode_ok Ty.mixed _ _ _ _ (by kernel_rfl) ?_)
            simp (disch := omega) only [go_sem, seval]
            refine roundL_next ⟨x ++ [m], own3, j3⟩ ⟨?_, ?_, ?_, ?_, ?_⟩ ?_ rfl
            · simpa [encU_len] using ho3
            · rw [List.map_append, List.map_cons, List.map_nil, hm2, hx1]
            · intro y hy
              rcases List.mem_append.1 hy with hy | hy
              · exact hx2 y hy
              · rw [List.mem_singleton] at hy; subst hy; exact hm1
            · rw [hx3, hbt]; rfl
            · intro y hy
              rcases List.mem_append.1 hy with hy | hy
              · exact hx4 y hy
              · rw [List.mem_singleton] at hy; subst hy; exact hsl12
            · simp (disch := omega) only [go_sem, seval, List.length_append, List.length_cons, List.length_nil, encU_snoc, hlen]
  · rintro ⟨x, own, j⟩ ⟨ho, hx1, hx2, hx3, hx4⟩
    simp only at ho hx1 hx2 hx3 hx4 ⊢
    simp (disch := omega) only [go_sem, seval, encII_len]
    refine AWP.keep [6] (aCode_ok Ty.mixed _ _ _ _ (by kernel_rfl) ?_)
    simp (disch := omega) only [go_sem, seval]
    exact ⟨KD _, x, by rw [hx3]; rfl, fun _ => ⟨hx1, hx2⟩⟩
end Go.Proofs.Ytnioapinljedmaa

/- The program's Agree. No conditions. -/
set_option linter.unusedSimpArgs false
set_option linter.unusedVariables false
namespace Go.Proofs.Ytnioapinljedmaa
open Go Go.Proofs Go.Abs

def covM (P : List Int) (l m : List (List Int)) (s : Nat) : Bool := someF l (listF P s) || someF m (listF P (andNot (2 ^ P.length - 1) s))
theorem cover_masks {P : List Int} (hP : P.Pairwise (· < ·)) (hn : P.length ≤ 12) (l m : List (List Int)) : coverF P l m = true ↔ ∀ s, s < 2 ^ P.length → covM P l m s = true := by
  rw [coverF, List.all_eq_true]
  constructor
  · intro h s hs
    have := h (listF P s) ((mem_all _ _).2 (listF_sub P s))
    rw [covM, listF_other hP hn]; exact this
  · intro h t ht
    obtain ⟨s, hs, rfl⟩ := listF_surj ((mem_all _ _).1 ht)
    have := h s hs
    rw [covM, listF_other hP hn] at this; exact this
theorem agr_sets {g : Gt} (he : errF g = 0) (l m : List (List Int)) : agrF g l m = (setsOK g (holdP g) [] l && setsOK g (blkP g) [] m && coverF (pplF g) l m, 0) := by
  rw [agrF, if_pos he, setsOK, setsOK]
  congr 1
  cases ordF (pplF g) [] l <;> cases ordF (pplF g) [] m <;> cases l.all (holdP g) <;> cases m.all (blkP g) <;> rfl
set_option maxRecDepth 100000 in
theorem pagree_calls (Γ : Nat → Option (List AV)) (g : Gt) (l m : List (List Int)) (h : AH) (hs : Sh g) (hl : l.length ≤ 1000000) (hm : m.length ≤ 1000000) (hbl : ∀ s ∈ l, s.length ≤ 9223372036854775807) (hbm : ∀ s ∈ m, s.length ≤ 9223372036854775807) :
    ACalls Try.prog Γ 38 [encG g, .sl (encII l) .free, .sl (encII m) .free] h fun v h' => h' = h ∧ v = encA (agrF g l m) := by
  cases g with | mk p n gl =>
  have c0 := fun h => ask_calls Γ (.mk p n gl) h hs
  rw [encA]
  generalize hG : (Gt.mk p n gl) = G at *
  have eG : encG G = .agg [.int .i64 p, .int .i64 n, .sl (gl.map encG) .free] := by rw [← hG, encG_mk]
  rw [eG] at c0 ⊢
  rw [askV] at c0
  refine ACalls.drop ?_
  refine acalls_code (rs := [.tmp 6, .tmp 7]) Try.func38 rfl rfl rfl rfl Ty.mixed (by kernel_rfl) ?_
  simp (disch := omega) only [go_sem, seval]
  by_cases he : errF G = 0
  rotate_left
  · rw [if_neg he] at c0
    rw [q0V] at c0
    refine ACalls.det (c0 _) ?_
    simp (disch := omega) only [go_sem, seval]
    refine aIf.neg he ?_
    simp (disch := omega) only [go_sem, seval]
    rw [agrF, if_neg he]
  rw [if_pos he] at c0
  obtain ⟨hck, hlv, hpn⟩ := errF_facts he
  have hP := ppl_lt hck
  have hp := pow12 hpn
  have hp1 : 1 ≤ 2 ^ (pplF G).length := Nat.one_le_two_pow
  have c1 := fun h => sets_calls Γ G (holdP G) _ _ _ l h hck hpn (fine_ask hpn) hl hbl
  have c2 := fun h => sets_calls Γ G (blkP G) _ _ _ m h hck hpn (fine_blk hck hpn) hm hbm
  rw [agr_sets he]
  generalize ho1 : setsOK G (holdP G) [] l = o1 at c1 ⊢
  generalize ho2 : setsOK G (blkP G) [] m = o2 at c2 ⊢
  have hcv := cover_masks hP hpn l m
  rw [qV] at c0 c1 c2
  obtain ⟨N, hN⟩ : ∃ N : Nat, N = 2 ^ (pplF G).length := ⟨_, rfl⟩
  rw [← hN] at c0 c1 c2 hp hp1 hcv
  refine ACalls.det (c0 _) ?_
  simp (disch := omega) only [go_sem, seval]
  obtain ⟨K, hK⟩ : ∃ K : AH, K = h ++ [.row [.int .i64 p, .int .i64 n, .sl (gl.map encG) .free] 24, .row [.sl (encI (pplF G)) .free, .int .u64 ((N - 1 : Nat) : Int), .func 94 [] [.eptr [.sl (knownV G) .free]]] 80] := ⟨_, rfl⟩
  have KD : ∃ l, K = h ++ l := by subst hK; exact ⟨_, rfl⟩
  have Kq : K[h.length + 1]? = some (.row [.sl (encI (pplF G)) .free, .int .u64 ((N - 1 : Nat) : Int), .func 94 [] [.eptr [.sl (knownV G) .free]]] 80) := by subst hK; simp
  rw [← hK]
  refine ACalls.then (c1 _) ?_
  rintro _ h1 ⟨e1, xs, rfl, hx⟩
  rw [e1]
  clear e1
  simp (disch := omega) only [go_sem, seval, Kq]
  cases o1 with
  | false => simp (disch := omega) only [go_sem, seval]; exact KD
  | true =>
  simp (disch := omega) only [go_sem, seval, Kq]
  refine ACalls.then (c2 _) ?_
  rintro _ h2 ⟨e1, ys, rfl, hy⟩
  rw [e1]
  clear e1
  simp (disch := omega) only [go_sem, seval, Kq]
  cases o2 with
  | false => simp (disch := omega) only [go_sem, seval]; exact KD
  | true =>
  obtain ⟨hx1, hx2⟩ := hx rfl
  obtain ⟨hy1, hy2⟩ := hy rfl
  have hxl : xs.length = l.length := by rw [← hx1, List.length_map]
  have hyl : ys.length = m.length := by rw [← hy1, List.length_map]
  simp (disch := omega) only [go_sem, seval, Kq]
  refine awp_loopS (α := Nat) [8, 9, 10, 11] (fun s => [(8, .ptr (some (h.length + 1, 0))), (9, .sl (encU xs) .free), (10, .sl (encU ys) .free), (11, .int .u64 s)]) (fun _ => K)
    (fun s => s ≤ N ∧ ∀ i, i < s → covM (pplF G) l m i = true) (fun s => N - s) 0 ?_ rfl ⟨by omega, fun i hi => by omega⟩ Ty.mixed (by kernel_rfl) ?_
  · simp (disch := omega) only [go_sem, seval]
  rintro s ⟨hsN, hcov⟩
  simp (disch := omega) only [go_sem, seval, Kq]
  refine aIf.intro (fun hs2 => ?_) (fun hs2 => ?_) <;> simp (disch := omega) only [go_sem, seval]
  · have hle := andNot_le (N - 1) s (by omega)
    have hb : bitsOp .andNot .u64 ((N - 1 : Nat) : Int) (s : Int) = (andNot (N - 1) s : Nat) := by
      show IntKind.u64.wrap ((BitVec.ofInt 64 ((N - 1 : Nat) : Int) &&& ~~~ BitVec.ofInt 64 (s : Int)).toNat : Int) = _
      rw [BitVec.ofInt_natCast, BitVec.ofInt_natCast]
      show IntKind.u64.wrap ((andNot (N - 1) s : Nat) : Int) = _
      exact IntWalk.u64_in _ ⟨by omega, by omega⟩
    have k1 := fun h => containsU_calls Γ (pplF G) xs s h hpn hP (by rw [← hN]; omega) (fun y hy => by rw [← hN]; exact hx2 y hy) (by omega)
    have k2 := fun h => containsU_calls Γ (pplF G) ys (andNot (N - 1) s) h hpn hP (by rw [← hN]; omega) (fun y hy => by rw [← hN]; exact hy2 y hy) (by omega)
    rw [hx1] at k1
    rw [hy1] at k2
    have hcm : covM (pplF G) l m s = (someF l (listF (pplF G) s) || someF m (listF (pplF G) (andNot (N - 1) s))) := by rw [hN]; rfl
    generalize someF l (listF (pplF G) s) = b1 at k1 hcm
    generalize someF m (listF (pplF G) (andNot (N - 1) s)) = b2 at k2 hcm
    have hwr : IntKind.u64.wrap ((s : Int) + 1) = ((s + 1 : Nat) : Int) := IntWalk.u64_in _ ⟨by omega, by omega⟩
    have next : (b1 || b2) = true → ∀ i, i < s + 1 → covM (pplF G) l m i = true := fun e i hi => by
      rcases Nat.lt_or_ge i s with c | c
      · exact hcov i c
      · have : i = s := by omega
        subst this; rw [hcm]; exact e
    refine ACalls.det (k1 _) ?_
    simp (disch := omega) only [go_sem, seval]
    cases b1 with
    | true =>
      simp (disch := omega) only [go_sem, seval]
      refine roundS_next (s + 1) (by omega) ⟨by omega, next rfl⟩ ?_ rfl
      simp (disch := omega) only [go_sem, seval, hwr]
    | false =>
      simp (disch := omega) only [go_sem, seval, Kq]
      rw [hb]
      refine ACalls.det (k2 _) ?_
      simp (disch := omega) only [go_sem, seval]
      cases b2 with
      | true =>
        simp (disch := omega) only [go_sem, seval]
        refine roundS_next (s + 1) (by omega) ⟨by omega, next rfl⟩ ?_ rfl
        simp (disch := omega) only [go_sem, seval, hwr]
      | false =>
        simp (disch := omega) only [go_sem, seval]
        have : coverF (pplF G) l m = false := by
          cases hc : coverF (pplF G) l m with
          | false => rfl
          | true => have := hcv.1 hc s (by omega); rw [hcm] at this; cases this
        rw [this]
        exact ⟨KD, rfl⟩
  · refine AWP.keep [] (aCode_ok Ty.mixed _ _ _ _ (by kernel_rfl) ?_)
    simp (disch := omega) only [go_sem, seval]
    rw [hcv.2 fun i hi => hcov i (by omega)]
    exact ⟨KD, rfl⟩
end Go.Proofs.Ytnioapinljedmaa
