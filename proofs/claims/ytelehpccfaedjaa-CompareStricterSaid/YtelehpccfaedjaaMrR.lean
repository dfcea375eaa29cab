/- Texts joined: MinG, MinH, MinI, MinJ. No conditions. -/
import Derived.Test.YtelehpccfaedjaaMrP
import Derived.Test.YtelehpccfaedjaaMrQ
/- The program's Sets and Blocks. No conditions. -/
set_option linter.unusedSimpArgs false
set_option linter.unusedVariables false
namespace Go.Proofs.Ytelehpccfaedjaa
open Go Go.Proofs Go.Abs

set_option maxRecDepth 100000 in
theorem psets_calls (Γ : Nat → Option (List AV)) (g : Gt) (h : AH) (hs : Sh g) :
    ACalls Try.prog Γ 32 [encG g] h fun v h' => h' = h ∧ v = encS (smallR g false) := by
  cases g with | mk p n l =>
  have c0 := fun h => ask_calls Γ (.mk p n l) h hs
  rw [encS, smallR]
  generalize hG : (Gt.mk p n l) = G at *
  have eG : encG G = .agg [.int .i64 p, .int .i64 n, .sl (l.map encG) .free] := by rw [← hG, encG_mk]
  rw [eG] at c0 ⊢
  rw [askV] at c0
  refine ACalls.dropL ?_
  refine acalls_code (rs := [.tmp 2, .tmp 3]) Try.func32 rfl rfl rfl rfl Ty.mixed (by kernel_rfl) ?_
  simp (disch := omega) only [go_sem, seval]
  by_cases he : errF G = 0
  · rw [if_pos he] at c0 ⊢
    obtain ⟨hck, hlv, hpn⟩ := errF_facts he
    have c1 := fun h => all_calls24 Γ G (holdP G) _ _ _ h hck hpn (hold_mono hck) (fine_ask hpn)
    rw [qV] at c0 c1
    refine ACalls.det (c0 _) ?_
    simp (disch := omega) only [go_sem, seval]
    refine ACalls.det (c1 _) ?_
    simp (disch := omega) only [go_sem, seval]
    rw [show fineF G false = holdP G from rfl]
    split <;> rfl
  · rw [if_neg he] at c0 ⊢
    rw [q0V] at c0
    refine ACalls.det (c0 _) ?_
    simp (disch := omega) only [go_sem, seval]
    refine aIf.neg he ?_
    simp (disch := omega) only [go_sem, seval]
    rfl
end Go.Proofs.Ytelehpccfaedjaa

/- The program's reading of lists as sets. No conditions. -/
set_option linter.unusedSimpArgs false
set_option linter.unusedVariables false
namespace Go.Proofs.Ytelehpccfaedjaa
open Go Go.Proofs Go.Abs

theorem pw_get {P : List Int} (hP : P.Pairwise (· < ·)) {a b : Nat} {u v : Int} (ha : P[a]? = some u) (hb : P[b]? = some v) (h : a < b) : u < v := by
  obtain ⟨ha1, rfl⟩ := List.getElem?_eq_some_iff.1 ha
  obtain ⟨hb1, rfl⟩ := List.getElem?_eq_some_iff.1 hb
  exact List.pairwise_iff_getElem.1 hP a b ha1 hb1 h
/-- What is looked at, person by person. -/
def chkF (P : List Int) : Int → List Int → Bool
  | _, [] => true
  | last, p :: r => decide (p ∈ P) && decide (last < p) && chkF P p r
theorem chk_iff (P : List Int) : ∀ (s : List Int) (last : Int), chkF P last s = true ↔ (∀ x ∈ s, x ∈ P) ∧ s.Pairwise (· < ·) ∧ ∀ x ∈ s, last < x
  | [], last => by simp [chkF]
  | p :: r, last => by
    rw [chkF, Bool.and_eq_true, Bool.and_eq_true, decide_eq_true_eq, decide_eq_true_eq, chk_iff P r p]
    simp only [List.mem_cons, forall_eq_or_imp]
    constructor
    · rintro ⟨⟨h1, h2⟩, h3, h4, h5⟩
      exact ⟨⟨h1, h3⟩, List.pairwise_cons.2 ⟨h5, h4⟩, h2, fun x hx => by have := h5 x hx; omega⟩
    · rintro ⟨⟨h1, h2⟩, h3, h4, h5⟩
      rw [List.pairwise_cons] at h3
      exact ⟨⟨h1, h4⟩, h2, h3.2, h3.1⟩
theorem chk_inc {P : List Int} (hP : ∀ x ∈ P, -1 < x) (s : List Int) : chkF P (-1) s = (incF s && decide (∀ x ∈ s, x ∈ P)) := by
  rw [Bool.eq_iff_iff, chk_iff, Bool.and_eq_true, incF_iff, decide_eq_true_eq]
  exact ⟨fun h => ⟨h.2.1, h.1⟩, fun h => ⟨h.2, h.1, fun x hx => hP x (h.2 x hx)⟩⟩
theorem or_lt {a b n : Nat} (ha : a < 2 ^ n) (hb : b < 2 ^ n) : a ||| b < 2 ^ n := Nat.or_lt_two_pow ha hb
theorem listF_or {P : List Int} (hP : P.Pairwise (· < ·)) {d : List Int} {m k : Nat} {p : Int} (hd : listF P m = d) (hk : P[k]? = some p) (hlt : ∀ x ∈ d, x < p) : listF P (m ||| 2 ^ k) = d ++ [p] := by
  have hn := pw_nodup hP
  refine lt_eq (hP.sublist (listF_sub _ _)) ?_ fun x => ?_
  · rw [List.pairwise_append]
    refine ⟨by rw [← hd]; exact hP.sublist (listF_sub _ _), by simp, fun a ha b hb => ?_⟩
    rw [List.mem_singleton] at hb; subst hb; exact hlt a ha
  · rw [List.mem_append, List.mem_singleton, ← hd]
    constructor
    · intro hx
      obtain ⟨j, hj, rfl⟩ := List.mem_iff_getElem.1 ((listF_sub P _).subset hx)
      have hj' : P[j]? = some P[j] := by simp [hj]
      rw [mem_bit hn hj', Nat.testBit_or, Bool.or_eq_true, pow_bit2] at hx
      rcases hx with hx | hx
      · exact .inl ((mem_bit hn hj').2 hx)
      · simp at hx; subst hx; rw [hj'] at hk; cases hk; exact .inr rfl
    · rintro (hx | rfl)
      · obtain ⟨j, hj, rfl⟩ := List.mem_iff_getElem.1 ((listF_sub P _).subset hx)
        have hj' : P[j]? = some P[j] := by simp [hj]
        rw [mem_bit hn hj'] at hx ⊢
        rw [Nat.testBit_or, hx]; rfl
      · rw [mem_bit hn hk, Nat.testBit_or, pow_bit2]; simp
theorem or_u64 (m k n : Nat) (hn : n ≤ 12) (hm : m < 2 ^ n) (hk : k < n) : bitsOp .or .u64 (m : Int) ((2 ^ k : Nat) : Int) = (m ||| 2 ^ k : Nat) := by
  have h1 := pow12 hn
  have h2 : 2 ^ k < 2 ^ n := Nat.pow_lt_pow_right (by decide) hk
  have h3 := or_lt hm h2
  show IntKind.u64.wrap ((BitVec.ofInt 64 (m : Int) ||| BitVec.ofInt 64 ((2 ^ k : Nat) : Int)).toNat : Int) = _
  rw [BitVec.ofInt_natCast, BitVec.ofInt_natCast, BitVec.toNat_or, BitVec.toNat_ofNat, BitVec.toNat_ofNat, Nat.mod_eq_of_lt (by omega), Nat.mod_eq_of_lt (by omega)]
  exact IntWalk.u64_in _ ⟨by omega, by omega⟩
end Go.Proofs.Ytelehpccfaedjaa

/- The program's Agree. No conditions. -/
set_option linter.unusedSimpArgs false
set_option linter.unusedVariables false
namespace Go.Proofs.Ytelehpccfaedjaa
open Go Go.Proofs Go.Abs

structure StS where
  x : List Nat
  own : Abs.Own
  j : AH
def lastI (d : List Int) : Int := match d.getLast? with
  | some p => p
  | none => -1
theorem lastI_snoc (d : List Int) (p : Int) : lastI (d ++ [p]) = p := by simp [lastI]
theorem lastI_lt {d : List Int} (h : d.Pairwise (· < ·)) {p : Int} (hp : lastI d < p) : ∀ x ∈ d, x < p := by
  rcases List.eq_nil_or_concat d with rfl | ⟨d0, y, rfl⟩
  · simp
  · rw [List.concat_eq_append, lastI_snoc] at hp
    rw [List.concat_eq_append, List.pairwise_append] at h
    intro x hx
    rw [List.concat_eq_append] at hx
    rcases List.mem_append.1 hx with hx | hx
    · have := h.2.2 x hx y (by simp); omega
    · rw [List.mem_singleton] at hx; omega
def setsOK (g : Gt) (fine : List Int → Bool) (don l : List (List Int)) : Bool := ordF (pplF g) don l && l.all fine
end Go.Proofs.Ytelehpccfaedjaa

/- The program's Agree. No conditions. -/
set_option linter.unusedSimpArgs false
set_option linter.unusedVariables false
namespace Go.Proofs.Ytelehpccfaedjaa
open Go Go.Proofs Go.Abs

def covM (P : List Int) (l m : List (List Int)) (s : Nat) : Bool := someF l (listF P s) || someF m (listF P (andNot (2 ^ P.length - 1) s))
theorem cover_masks {P : List Int} (hP : P.Pairwise (· < ·)) (hn : P.length ≤ 12) (l m : List (List Int)) : coverF P l m = true ↔ ∀ s, s < 2 ^ P.length → covM P l m s = true := by
  rw [coverF, List.all_eq_true]
  constructor
  · intro h s hs
    have := h (listF P s) ((mem_all _ _).2 (listF_sub P s))
    rw [covM, listF_other hP hn]; exact this
  · intro h t ht
    obtain ⟨s, hs, rfl⟩ := listF_surj ((mem_all _ _).1 ht)
    have := h s hs
    rw [covM, listF_other hP hn] at this; exact this
theorem agr_sets {g : Gt} (he : errF g = 0) (l m : List (List Int)) : agrF g l m = (setsOK g (holdP g) [] l && setsOK g (blkP g) [] m && coverF (pplF g) l m, 0) := by
  rw [agrF, if_pos he, setsOK, setsOK]
  congr 1
  cases ordF (pplF g) [] l <;> cases ordF (pplF g) [] m <;> cases l.all (holdP g) <;> cases m.all (blkP g) <;> rfl
end Go.Proofs.Ytelehpccfaedjaa
