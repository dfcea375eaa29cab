/- Texts joined: PerK. No conditions. -/
import Derived.Test.YtjdhgaflenhljaaDoorMrEJ
/- Values without a border between them. No conditions. -/
set_option linter.unusedSimpArgs false
set_option linter.unusedVariables false
namespace Go.Proofs.YtjdhgaflenhljaaDoor
open Go Go.Proofs Go.Abs

mutual
def betwF (v w : Int) : Ex → Bool
  | .mk k n _ _ l => betwFs v w l || (decide (k = 4) && decide (v ≤ n ∧ n < w))
def betwFs (v w : Int) : List Ex → Bool
  | [] => false
  | x :: r => betwF v w x || betwFs v w r
end
theorem betwFs_any (v w : Int) (l : List Ex) : betwFs v w l = l.any (betwF v w) := by
  induction l with
  | nil => rfl
  | cons x r ih => rw [betwFs, ih, List.any_cons]
theorem betwF_eq (v w : Int) (x : Ex) : betwF v w x = (x.l.any (betwF v w) || (decide (x.k = 4) && decide (v ≤ x.n ∧ x.n < w))) := by
  cases x; rw [betwF, betwFs_any]; rfl
theorem ful_betw_k (hs : List (List Hd)) (who : List Int) {v w : Int} (hvw : v ≤ w) (o : List Tx) (u : Bool) : ∀ (m : Nat) (x : Ex), SizeOf.sizeOf x < m → okX o u x = true → betwF v w x = false → fulF v hs who x = fulF w hs who x
  | 0, _, hk, _, _ => absurd hk (Nat.not_lt_zero _)
  | m + 1, x, hsz, hok, hb => by
    rw [betwF_eq, Bool.or_eq_false_iff] at hb
    have hmap : x.l.map (fulF v hs who) = x.l.map (fulF w hs who) := List.map_congr_left fun y hy =>
      ful_betw_k hs who hvw o u m y (by cases x; exact memX_sz hy hsz) (okX_sub hok hy) (by
        have := hb.1
        rw [List.any_eq_false] at this
        simpa using this y hy)
    rw [fulF_eq, fulF_eq w, hmap]
    have hk := okF_kind (okX_top hok)
    obtain e | e | e | e : x.k = 1 ∨ x.k = 2 ∨ x.k = 3 ∨ x.k = 4 := by omega
    · rw [if_pos e, if_pos e]
    · rw [if_neg (by omega), if_pos e, if_neg (by omega), if_pos e]
    · rw [if_neg (by omega), if_neg (by omega), if_pos e, if_neg (by omega), if_neg (by omega), if_pos e]
    · rw [if_neg (show ¬ x.k = 1 by omega), if_neg (show ¬ x.k = 2 by omega), if_neg (show ¬ x.k = 3 by omega), if_neg (show ¬ x.k = 1 by omega), if_neg (show ¬ x.k = 2 by omega), if_neg (show ¬ x.k = 3 by omega)]
      have h2 := hb.2
      rw [decide_eq_true e, Bool.true_and, decide_eq_false_iff_not] at h2
      by_cases h : v ≤ x.n
      · rw [if_pos h, if_pos (by omega)]
      · rw [if_neg h, if_neg (by omega)]
theorem ful_betw {hs : List (List Hd)} {who : List Int} {v w : Int} (hvw : v ≤ w) {o : List Tx} {u : Bool} {x : Ex} (hok : okX o u x = true) (hb : betwF v w x = false) : fulF v hs who x = fulF w hs who x := ful_betw_k hs who hvw o u _ x (Nat.lt_succ_self _) hok hb
theorem rightF_facts {p : Pol} {kind value : Int} {hs : List (List Hd)} {who : List Int} (h : rightF p kind value hs who = true) : fewF p hs = true ∧ who.length ≤ 64 ∧ checkF p = 0 ∧ (0 ≤ kind ∧ kind < p.kinds.length ∧ 0 ≤ value ∧ value ≤ 1099511627776) ∧ holdersF hs p.offices.length = true ∧ peopleF who = true := by
  simp only [rightF, Bool.and_eq_true, decide_eq_true_eq] at h
  exact h
theorem perm_ok {p : Pol} {kind value : Int} {hs : List (List Hd)} {who : List Int} {r : Rl} (hc : checkF p = 0) (hk : 0 ≤ kind ∧ kind < p.kinds.length) (hv : 0 ≤ value ∧ value ≤ 1099511627776) (hH : holdersF hs p.offices.length = true) (hp : peopleF who = true) (hr : p.rules[kind.toNat]? = some r) : permF p kind value hs who = (fulF value hs who r.x, 0) := by
  rw [permF, if_neg (by simpa using hc), if_neg (by omega), hH, if_neg (by decide), hp, if_neg (by decide), hr]; rfl
theorem change_ok {p : Pol} {hs : List (List Hd)} {who : List Int} (hc : checkF p = 0) (hH : holdersF hs p.offices.length = true) (hp : peopleF who = true) : changeF p hs who = (fulF 0 hs who p.change, 0) := by
  rw [changeF, if_neg (by simpa using hc), hH, if_neg (by decide), hp, if_neg (by decide)]
theorem rule_at {p : Pol} {kind : Int} (hc : checkF p = 0) (hk : 0 ≤ kind ∧ kind < p.kinds.length) : ∃ r, p.rules[kind.toNat]? = some r ∧ (p.rules.map encRl)[kind.toNat]? = some (encRl r) ∧ r ∈ p.rules := by
  have hlen := check_lens hc
  have hlt : kind.toNat < p.rules.length := by omega
  refine ⟨p.rules[kind.toNat], List.getElem?_eq_getElem hlt, ?_, List.getElem_mem hlt⟩
  rw [List.getElem?_map, List.getElem?_eq_getElem hlt, Option.map_some]
end Go.Proofs.YtjdhgaflenhljaaDoor
