/- Texts joined: PerK. No conditions. -/
import Derived.Test.YtmdiebdplakccaaDoorMrEJ
/- Values without a border between them. No conditions. -/
set_option linter.unusedSimpArgs false
set_option linter.unusedVariables false
namespace Go.Proofs.YtmdiebdplakccaaDoor
open Go Go.Proofs Go.Abs

mutual
def betwF (v w : Int) : Ex → Bool
  | .mk k n _ _ l => betwFs v w l || (decide (k = 4) && decide (v ≤ n ∧ n < w))
def betwFs (v w : Int) : List Ex → Bool
  | [] => false
  | x :: r => betwF v w x || betwFs v w r
end
theorem betwFs_any (v w : Int) (l : List Ex) : betwFs v w l = l.any (betwF v w) := by
  induction l with
  | nil => rfl
  | cons x r ih => rw [betwFs, ih, List.any_cons]
theorem betwF_eq (v w : Int) (x : Ex) : betwF v w x = (x.l.any (betwF v w) || (decide (x.k = 4) && decide (v ≤ x.n ∧ x.n < w))) := by
  cases x; rw [betwF, betwFs_any]; rfl
theorem ful_betw_k (hs : List (List Hd)) (who : List Int) {v w : Int} (hvw : v ≤ w) (o : List Tx) (u : Bool) : ∀ (m : Nat) (x : Ex), SizeOf.sizeOf x < m → okX o u x = true → betwF v w x = false → fulF v hs who x = fulF w hs who x
  | 0, _, hk, _, _ => absurd hk (Nat.not_lt_zero _)
  | m + 1, x, hsz, hok, hb => by
    rw [betwF_eq, Bool.or_eq_false_iff] at hb
    have hmap : x.l.map (fulF v hs who) = x.l.map (fulF w hs who) := List.map_congr_left fun y hy =>
      ful_betw_k hs who hvw o u m y (by cases x; exact memX_sz hy hsz) (okX_sub hok hy) (by
        have := hb.1
        rw [List.any_eq_false] at this
        simpa using this y hy)
    rw [fulF_eq, fulF_eq w, hmap]
    have hk := okF_kind (okX_top hok)
    obtain e | e | e | e : x.k = 1 ∨ x.k = 2 ∨ x.k = 3 ∨ x.k = 4 := by omega
    · rw [if_pos e, if_pos e]
    · rw [if_neg (by omega), if_pos e, if_neg (by omega), if_pos e]
    · rw [if_neg (by omega), if_neg (by omega), if_pos e, if_neg (by omega), if_neg (by omega), if_pos e]
    · rw [if_neg (show ¬ x.k = 1 by omega), if_neg (show ¬ x.k = 2 by omega), if_neg (show ¬ x.k = 3 by omega), if_neg (show ¬ x.k = 1 by omega), if_neg (show ¬ x.k = 2 by omega), if_neg (show ¬ x.k = 3 by omega)]
      have h2 := hb.2
      rw [decide_eq_true e, Bool.true_and, decide_eq_false_iff_not] at h2
      by_cases h : v ≤ x.n
      · rw [if_pos h, if_pos (by omega)]
      · rw [if_neg h, if_neg (by omega)]
theorem ful_betw {hs : List (List Hd)} {who : List Int} {v w : Int} (hvw : v ≤ w) {o : List Tx} {u : Bool} {x : Ex} (hok : okX o u x = true) (hb : betwF v w x = false) : fulF v hs who x = fulF w hs who x := ful_betw_k hs who hvw o u _ x (Nat.lt_succ_self _) hok hb
set_option maxRecDepth 100000 in
theorem betw_calls_k (Γ : Nat → Option (List AV)) (v w : Int) : ∀ (m : Nat) (x : Ex) (h : AH), SizeOf.sizeOf x < m → ShX x → ACalls Tryd.prog Γ 19 [encX x, .int .i64 v, .int .i64 w] h fun r h' => h' = h ∧ r = .bool (betwF v w x)
  | 0, _, _, hk, _ => absurd hk (Nat.not_lt_zero _)
  | m + 1, x, h, hsz, hs => by
    have IH := fun y (hy : y ∈ x.l) h => betw_calls_k Γ v w m y h (by cases x; exact memX_sz hy hsz) (by cases x; exact hs.mem y hy)
    have hl : x.l.length ≤ 9223372036854775807 := by cases x; exact hs.len
    have hd := betwF_eq v w x
    rw [encX_eq]
    refine ACalls.drop ?_
    refine acalls_code (rs := [.tmp 6]) Tryd.func19 rfl rfl rfl rfl Ty.mixed (by kernel_rfl) ?_
    simp (disch := omega) only [go_sem, seval, List.length_map]
    refine awp_loopL (β := AH) x.l [1, 2, 3, 10, 11, 12] (fun don _ => [(1, .int .i64 v), (2, .int .i64 w), (3, .ptr (some (h.length, 0))), (10, .sl (x.l.map encX) .free), (11, .int .i64 x.l.length), (12, .int .i64 don.length)]) (fun j => h ++ .row [.int .i64 x.k, .int .i64 x.n, .int .i64 x.no, .str ⟨⟨x.name⟩⟩, .sl (x.l.map encX) .free] 26 :: j) (fun don _ _ => don.any (betwF v w) = false) [] ?_ rfl rfl Ty.mixed (by kernel_rfl) ?_ ?_
    · simp (disch := omega) only [go_sem, seval, List.length_nil]
    · rintro don y r j hdn hp
      have hlen : x.l.length = don.length + 1 + r.length := by rw [hdn]; simp; omega
      have e1 : (x.l.map encX)[don.length]? = some (encX y) := by rw [hdn]; exact rowMid ..
      have c1 := IH y (by rw [hdn]; simp)
      rw [encX_eq] at e1 c1
      simp (disch := omega) only [go_sem, seval, List.length_map]
      refine aIf.pos (by omega) ?_
      simp (disch := omega) only [go_sem, seval, e1]
      refine ACalls.det (c1 _) ?_
      cases hb : betwF v w y <;> simp (disch := omega) only [go_sem, seval]
      · refine roundL_next (j ++ [.row [.int .i64 y.k, .int .i64 y.n, .int .i64 y.no, .str ⟨⟨y.name⟩⟩, .sl (y.l.map encX) .free] 26]) ?_ ?_ ?_
        · rw [List.any_append, hp, List.any_cons, hb]; rfl
        · simp (disch := omega) only [go_sem, seval, List.length_append]
        · simp
      · rw [hd, hdn, List.any_append, List.any_cons, hb]; simp
    · rintro j hp
      simp (disch := omega) only [go_sem, seval, List.length_map]
      refine AWP.keep [1, 2, 3] (aCode_ok Ty.mixed _ _ _ _ (by kernel_rfl) ?_)
      simp (disch := omega) only [go_sem, seval]
      rw [hp, Bool.false_or] at hd
      refine aIf.intro (fun h1 => ?_) (fun h1 => ?_) <;> simp (disch := omega) only [go_sem, seval]
      rotate_left
      · rw [hd, decide_eq_false h1]; rfl
      rw [decide_eq_true h1, Bool.true_and] at hd
      refine aIf.intro (fun h2 => ?_) (fun h2 => ?_) <;> simp (disch := omega) only [go_sem, seval]
      · rw [hd]; congr 1; exact decide_eq_decide.2 (by omega)
      · rw [hd, decide_eq_false (by omega)]
theorem rightF_facts {p : Pol} {kind value : Int} {hs : List (List Hd)} {who : List Int} (h : rightF p kind value hs who = true) : fewF p hs = true ∧ who.length ≤ 64 ∧ checkF p = 0 ∧ (0 ≤ kind ∧ kind < p.kinds.length ∧ 0 ≤ value ∧ value ≤ 1099511627776) ∧ holdersF hs p.offices.length = true ∧ peopleF who = true := by
  simp only [rightF, Bool.and_eq_true, decide_eq_true_eq] at h
  exact h
theorem perm_ok {p : Pol} {kind value : Int} {hs : List (List Hd)} {who : List Int} {r : Rl} (hc : checkF p = 0) (hk : 0 ≤ kind ∧ kind < p.kinds.length) (hv : 0 ≤ value ∧ value ≤ 1099511627776) (hH : holdersF hs p.offices.length = true) (hp : peopleF who = true) (hr : p.rules[kind.toNat]? = some r) : permF p kind value hs who = (fulF value hs who r.x, 0) := by
  rw [permF, if_neg (by simpa using hc), if_neg (by omega), hH, if_neg (by decide), hp, if_neg (by decide), hr]; rfl
theorem change_ok {p : Pol} {hs : List (List Hd)} {who : List Int} (hc : checkF p = 0) (hH : holdersF hs p.offices.length = true) (hp : peopleF who = true) : changeF p hs who = (fulF 0 hs who p.change, 0) := by
  rw [changeF, if_neg (by simpa using hc), hH, if_neg (by decide), hp, if_neg (by decide)]
theorem rule_at {p : Pol} {kind : Int} (hc : checkF p = 0) (hk : 0 ≤ kind ∧ kind < p.kinds.length) : ∃ r, p.rules[kind.toNat]? = some r ∧ (p.rules.map encRl)[kind.toNat]? = some (encRl r) ∧ r ∈ p.rules := by
  have hlen := check_lens hc
  have hlt : kind.toNat < p.rules.length := by omega
  refine ⟨p.rules[kind.toNat], List.getElem?_eq_getElem hlt, ?_, List.getElem_mem hlt⟩
  rw [List.getElem?_map, List.getElem?_eq_getElem hlt, Option.map_some]
set_option maxHeartbeats 1600000 in
set_option maxRecDepth 100000 in
theorem permitsValue_calls (Γ : Nat → Option (List AV)) (hΓ : Γ 0 = some kindsC) (p : Pol) (kind value other : Int) (hs : List (List Hd)) (who : List Int) (h : AH) (hp : ShP p) (H : ShH hs) (hw : who.length ≤ 9223372036854775807) :
    ACalls Tryd.prog Γ 8 [encPol p, .int .i64 kind, .int .i64 value, .int .i64 other, .sl (encHl hs) .free, .sl (encI who) .free] h fun v h' => h' = h ∧ v = .bool true := by
  have c1 := fun h => right21_calls Γ p kind value hs who h hp H hw
  have c2 := fun v h (hf : fewF p hs = true) (hw : who.length ≤ 1000) => permits_calls Γ hΓ p kind v hs who h hp (fun x hx => by have := (few_szs (p := p) (hs := hs) hf).1 x hx; omega) (by have := (few_szs (p := p) (hs := hs) hf).2.1; omega) (few_S hf hw)
  refine ACalls.drop ?_
  rw [encPol_eq] at *
  refine acalls_code (rs := [.tmp 12]) Tryd.func8 rfl rfl rfl rfl Ty.mixed (by kernel_rfl) ?_
  simp (disch := omega) only [go_sem, seval]
  refine ACalls.det (sane21_calls Γ hΓ _) ?_
  simp (disch := omega) only [go_sem, seval]
  refine ACalls.det (c1 _) ?_
  cases h1 : rightF p kind value hs who <;> simp (disch := omega) only [go_sem, seval]
  obtain ⟨f1, f2, f3, f4, f5, f6⟩ := rightF_facts h1
  refine aIf.intro (fun h2 => ?_) (fun h2 => ?_) <;> simp (disch := omega) only [go_sem, seval]
  refine aIf.intro (fun h3 => ?_) (fun h3 => ?_) <;> simp (disch := omega) only [go_sem, seval]
  obtain ⟨r, hr, e1, hrm⟩ := rule_at f3 ⟨f4.1, f4.2.1⟩
  have hok := (check_rule f3 hrm).1
  have c3 := fun h => betw_calls_k Γ value other _ r.x h (Nat.lt_succ_self _) (hp.rulesX r hrm)
  rw [encX_eq] at c3
  rw [encRl_eq] at e1
  refine ⟨by omega, ?_⟩
  rw [e1]
  simp (disch := omega) only [go_sem, seval]
  refine ACalls.det (c3 _) ?_
  cases hb : betwF value other r.x <;> simp (disch := omega) only [go_sem, seval]
  have q1 := perm_ok (kind := kind) (value := value) (hs := hs) (who := who) f3 ⟨f4.1, f4.2.1⟩ ⟨f4.2.2.1, f4.2.2.2⟩ f5 f6 hr
  have q2 := perm_ok (kind := kind) (value := other) (hs := hs) (who := who) f3 ⟨f4.1, f4.2.1⟩ ⟨by omega, by omega⟩ f5 f6 hr
  rw [← ful_betw (hs := hs) (who := who) (by omega : value ≤ other) hok hb] at q2
  have c4 := fun h => c2 value h f1 (by omega)
  have c5 := fun h => c2 other h f1 (by omega)
  rw [q1, encB2] at c4
  rw [q2, encB2] at c5
  refine ACalls.det (c4 _) ?_
  simp (disch := omega) only [go_sem, seval]
  refine ACalls.det (c5 _) ?_
  simp (disch := omega) only [go_sem, seval]
end Go.Proofs.YtmdiebdplakccaaDoor
