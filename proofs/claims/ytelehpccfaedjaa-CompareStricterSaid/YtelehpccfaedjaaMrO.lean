/- Texts joined: MinA, MinB, MinP, MinQ, MinC. No conditions. -/
import Derived.Test.YtelehpccfaedjaaMrN
/- The program's people of a formula, as its text meets them. No conditions. -/
set_option linter.unusedSimpArgs false
set_option linter.unusedVariables false
namespace Go.Proofs.Ytelehpccfaedjaa
open Go Go.Proofs Go.Abs

mutual
def occF : Gt → List Int
  | .mk p _ l => if 0 ≤ p then [p] else occL l
def occL : List Gt → List Int
  | [] => []
  | x :: r => occF x ++ occL r
end
theorem occL_app : ∀ a b : List Gt, occL (a ++ b) = occL a ++ occL b
  | [], _ => rfl
  | x :: a, b => by simp only [List.cons_append, occL, occL_app a b, List.append_assoc]
mutual
theorem occF_len : ∀ g : Gt, ((occF g).length : Int) ≤ allLeaves g
  | .mk p n l => by
    have h1 := allLeaves_pos (.mk p n l)
    rw [occF]
    split
    · simpa using h1
    · have := occL_len l
      rw [allLeaves]
      split
      · rename_i he
        cases l with
        | nil => simp [occL]
        | cons x r => simp at he
      · exact this
theorem occL_len : ∀ l : List Gt, ((occL l).length : Int) ≤ allLeavesL l
  | [] => by simp [occL, allLeavesL]
  | x :: r => by
    have h1 := occF_len x
    have h2 := occL_len r
    rw [occL, allLeavesL, List.length_append]; omega
end
structure GaS where
  v : AV
  j : AH
set_option maxRecDepth 100000 in
theorem gather24_calls_k (Γ : Nat → Option (List AV)) : ∀ (k : Nat) (g : Gt) (h : AH), SizeOf.sizeOf g < k → Sh g → allLeaves g ≤ 1000 →
    ACalls Try.prog Γ 96 [encG g] h fun v h' => ∃ j, h' = h ++ j ∧ OwnM h.length j 3 v (encI (occF g))
  | 0, _, _, hk, _, _ => absurd hk (Nat.not_lt_zero _)
  | k + 1, .mk p n l, h, hsz, hs, hb => by
    refine acalls_codeM (rs := [.tmp 2]) Try.func96 rfl rfl rfl rfl rfl Ty.mixed (by kernel_rfl) ?_
    simp only [encG_mk]
    simp (disch := omega) only [go_sem, seval]
    refine aIf.intro (fun h1 => ?_) (fun h1 => ?_) <;> simp (disch := omega) only [go_sem, seval]
    · refine ⟨by omega, rfl, by simp [AV.cells, AV.one], ?_⟩
      simp (disch := omega) only [go_sem, seval]
      refine ⟨_, rfl, .inr ⟨1, 1, [], ?_, ?_, ?_, by simp⟩⟩
      · simp [encI, occF, h1]
      · simp [encI, occF, h1, flat, AV.cells]
      · simp [encI, occF, h1]
    have hl1 := hs.len
    have hl2 := hs.mem
    obtain ⟨K, hK⟩ : ∃ K : AH, K = h ++ [.row [.int .i64 p, .int .i64 n, .sl (l.map encG) .free] 54] := ⟨_, rfl⟩
    have Kl : K.length = h.length + 1 := by rw [hK]; simp
    have KD : ∀ j : AH, ∃ l, K ++ j = h ++ l := by subst hK; intro j; exact ⟨_, List.append_assoc ..⟩
    have Kj : ∀ (j : AH) r, (K ++ (j ++ [r]))[h.length + 1 + j.length]? = some r := by intro j r; rw [← Kl, hget_add]; simp
    have Sj : ∀ (j : AH) r r', (K ++ (j ++ [r])).set (h.length + 1 + j.length) r' = K ++ (j ++ [r']) := by intro j r r'; rw [← Kl, hset_add]; simp
    have Kx : ∀ (j : AH) r j2, (K ++ (j ++ [r]) ++ j2)[h.length + 1 + j.length]? = some r := by intro j r j2; rw [List.append_assoc, ← Kl, hget_add]; simp
    rw [← hK]
    have hbl : allLeavesL l ≤ 1000 := by
      rw [allLeaves] at hb
      split at hb
      · rename_i he
        cases l with
        | nil => simp [allLeavesL]
        | cons x r => simp at he
      · exact hb
    refine awp_loopL (β := GaS) l [2, 12, 13, 14, 1000000] (fun don s => [(2, s.v), (12, .sl (l.map encG) .free), (13, .int .i64 l.length), (14, .int .i64 don.length), (1000000, .tuple [])])
      (fun s => K ++ s.j) (fun don _ s => OwnM K.length s.j 3 s.v (encI (occL don))) ⟨.sl [] .full, []⟩ ?_ (by simp) (.inl ⟨rfl, rfl⟩) Ty.mixed (by kernel_rfl) ?_ ?_
    · simp (disch := omega) only [go_sem, seval, List.length_map]
    · rintro don x r ⟨v, j⟩ rfl hv
      simp only at hv ⊢
      have hl3 := len_mid hl1
      simp (disch := omega) only [go_sem, seval, List.map_append, List.map_cons, List.length_append]
      refine aIf.pos (by omega) ?_
      simp (disch := omega) only [go_sem, seval, Kl, Kj, Sj]
      have hbx : allLeaves x ≤ 1000 ∧ ((occL don).length : Int) + (occF x).length ≤ 1000 := by
        have e : ∀ a b : List Gt, allLeavesL (a ++ b) = allLeavesL a + allLeavesL b := fun a b => by
          induction a with
          | nil => simp [allLeavesL]
          | cons y a ih => simp only [List.cons_append, allLeavesL, ih]; omega
        have e1 := e don (x :: r)
        rw [allLeavesL] at e1
        have e2 := occL_len don
        have e3 := occF_len x
        have e4 := allLeavesL_pos r
        have e5 := allLeavesL_pos don
        omega
      refine ACalls.then (gather24_calls_k Γ k x _ (mem_sz (by simp) hsz) (hl2 x (by simp)) hbx.1) ?_
      rintro v2 _ ⟨j2, rfl, hv2⟩
      simp (disch := omega) only [go_sem, seval, Kl, Kx, List.append_assoc]
      have hsrc := hv2.src
      rw [List.append_assoc, List.append_assoc, List.cons_append, List.nil_append] at hsrc
      refine aApM_all (xs := encI (occL don)) (ys := encI (occF x)) (hv.more _) hsrc (rowsOK_I _) (flat_I _) (by simp only [encI_len]; omega) (by simp only [encI_len]; omega) fun v' j' hv' _ => ?_
      simp (disch := omega) only [go_sem, seval]
      refine roundL_next ⟨v', j'⟩ ?_ ?_ rfl
      · rw [encI_app2] at hv'
        have e : occL don ++ occF x = occL (don ++ [x]) := by simp [occL_app, occL]
        rw [e, Kl] at hv'
        exact hv'
      · simp (disch := omega) only [go_sem, seval, List.length_append]
    · rintro ⟨v, j⟩ hv
      simp only at hv ⊢
      simp (disch := omega) only [go_sem, seval, List.length_map]
      refine AWP.keep [2] (aCode_ok Ty.mixed _ _ _ _ (by kernel_rfl) ?_)
      simp (disch := omega) only [go_sem, seval]
      refine ⟨[.row [.int .i64 p, .int .i64 n, .sl (l.map encG) .free] 54] ++ j, by rw [hK, List.append_assoc], OwnM.shift ?_⟩
      rw [occF, if_neg h1]
      rw [Kl] at hv
      exact hv
theorem gather24_calls (Γ : Nat → Option (List AV)) (g : Gt) (h : AH) (hs : Sh g) (hb : allLeaves g ≤ 1000) :
    ACalls Try.prog Γ 96 [encG g] h fun v h' => ∃ j, h' = h ++ j ∧ OwnM h.length j 3 v (encI (occF g)) := gather24_calls_k Γ _ g h (Nat.lt_succ_self _) hs hb
end Go.Proofs.Ytelehpccfaedjaa

/- The program's evaluation of a formula for a set of its people. No conditions. -/
set_option linter.unusedSimpArgs false
set_option linter.unusedVariables false
namespace Go.Proofs.Ytelehpccfaedjaa
open Go Go.Proofs Go.Abs

/-- A set as a list: bit i is the list's element i. -/
def listF : List Int → Nat → List Int
  | [], _ => []
  | x :: r, s => if s % 2 = 1 then x :: listF r (s / 2) else listF r (s / 2)
theorem listF_sub : ∀ (l : List Int) (s : Nat), (listF l s).Sublist l
  | [], _ => .slnil
  | x :: r, s => by
    rw [listF]
    split
    · exact .cons_cons _ (listF_sub r _)
    · exact .cons _ (listF_sub r _)
theorem mem_listF : ∀ (l : List Int) (s m : Nat) (p : Int), l.Nodup → l[m]? = some p → (p ∈ listF l s ↔ s / 2 ^ m % 2 = 1)
  | [], _, _, _, _, h => by simp at h
  | x :: r, s, 0, p, hn, h => by
    rw [List.nodup_cons] at hn
    simp at h; subst h
    have hx : x ∉ listF r (s / 2) := fun e => hn.1 ((listF_sub r _).subset e)
    rw [listF, Nat.pow_zero, Nat.div_one]
    split
    · rename_i h1; simp [h1]
    · rename_i h1; simp [h1, hx]
  | x :: r, s, m + 1, p, hn, h => by
    rw [List.nodup_cons] at hn
    have hp : p ∈ r := List.mem_of_getElem? (by simpa using h)
    have hne : p ≠ x := fun e => hn.1 (e ▸ hp)
    have ih := mem_listF r (s / 2) m p hn.2 (by simpa using h)
    rw [Nat.div_div_eq_div_mul, ← Nat.pow_succ'] at ih
    rw [listF]
    split
    · rw [List.mem_cons]; simp [hne, ih]
    · exact ih
set_option maxRecDepth 100000 in
theorem index_at (Γ : Nat → Option (List AV)) (l : List Int) (x : Int) (h : AH) (hl : l.length ≤ 9223372036854775807) (hx : x ∈ l) :
    ACalls Try.prog Γ 99 [.sl (encI l) .free, .int .i64 x] h fun v h' => h' = h ∧ ∃ m : Nat, v = .int .i64 m ∧ l[m]? = some x := by
  refine acalls_code (rs := [.tmp 4]) Try.func99 rfl rfl rfl rfl Ty.mixed (by kernel_rfl) ?_
  simp (disch := omega) only [go_sem, seval]
  refine awp_loopL (β := Unit) l [8, 7, 1, 0] (fun don _ => [(8, .int .i64 don.length), (7, .int .i64 l.length), (1, .int .i64 x), (0, .sl (encI l) .free)])
      (fun b => h) (fun don rest b' => x ∈ rest) () ?_ rfl hx Ty.mixed (by kernel_rfl) ?_ ?_
  · simp (disch := omega) only [go_sem, seval, encI_len]
  · rintro don y r _ rfl hs
    have hl3 := len_mid hl
    have e1 : (encI (don ++ y :: r))[don.length]? = some (.int .i64 y) := by simp [encI]
    simp (disch := omega) only [go_sem, seval, encI_len, List.length_append, List.length_cons]
    refine aIf.pos (by omega) ?_
    simp (disch := omega) only [go_sem, seval, encI_len, List.length_append, List.length_cons, e1]
    refine aIf.intro (fun h1 => ?_) (fun h1 => ?_) <;> simp (disch := omega) only [go_sem, seval]
    · exact ⟨don.length, rfl, by simp [h1]⟩
    · refine roundL_next () ?_ ?_ rfl
      · rcases List.mem_cons.1 hs with e | e
        · exact absurd e h1
        · exact e
      · simp (disch := omega) only [go_sem, seval, List.length_append]
  · intro _ hs
    simp at hs
theorem and_one_u (q : Nat) (hq : q < 4096) : bitsOp .and .u64 (q : Int) 1 = (q % 2 : Nat) := by
  have h1 : (BitVec.ofInt 64 (q : Int) &&& BitVec.ofInt 64 1).toNat = q % 2 := by
    rw [BitVec.toNat_and, show (BitVec.ofInt 64 1).toNat = 1 from rfl, BitVec.ofInt_natCast, BitVec.toNat_ofNat, Nat.and_one_is_mod]
    omega
  show IntKind.u64.wrap ((BitVec.ofInt 64 (q : Int) &&& BitVec.ofInt 64 1).toNat : Int) = _
  rw [h1, IntWalk.u64_in _ ⟨by omega, by omega⟩]
def evalV (i j : Nat) : AV := .func 98 [] [.ptr (some (i, 0)), .ptr (some (j, 0))]
theorem eval_fn : 98 = 98 := rfl
set_option maxRecDepth 100000 in
theorem eval_calls_k (Γ : Nat → Option (List AV)) (P : List Int) (s : Nat) (hs4 : s < 4096) (hP : P.length ≤ 12) (hn : P.Nodup) : ∀ (k : Nat) (g : Gt) (h : AH) (i j : Nat), SizeOf.sizeOf g < k → Sh g → (∀ p, inG p g = true → p ∈ P) → h[i]? = some (.row [.sl (encI P) .free] 29) → h[j]? = some (.row [evalV i j] 142) →
    ACalls Try.prog Γ 98 [encG g, .int .u64 s, .ptr (some (i, 0)), .ptr (some (j, 0))] h fun v h' => h' = h ∧ v = .bool (rholdsF (fun p => decide (p ∈ listF P s)) g)
  | 0, _, _, _, _, hk, _, _, _, _ => absurd hk (Nat.not_lt_zero _)
  | k + 1, .mk p n l, h, i, j, hsz, hs, hin, hi, hj => by
    have hi' := hget_of hi
    have hj' := hget_of hj
    refine ACalls.drop ?_
    refine acalls_code (rs := [.tmp 6]) Try.func98 rfl rfl rfl rfl Ty.mixed (by kernel_rfl) ?_
    simp only [encG_mk]
    simp (disch := omega) only [go_sem, seval]
    refine aIf.intro (fun h1 => ?_) (fun h1 => ?_) <;> simp (disch := omega) only [go_sem, seval]
    · simp (disch := omega) only [go_sem, seval, hget_in _ hi', hi]
      refine ACalls.then (index_at Γ P p _ (by omega) (hin p (by simp [inG, h1]))) ?_
      rintro _ _ ⟨rfl, m, rfl, hm⟩
      have hm12 : m < P.length := (List.getElem?_eq_some_iff.1 hm).1
      have hmr : s / 2 ^ m ≤ s := Nat.div_le_self _ _
      simp (disch := omega) only [go_sem, seval]
      rw [Nat.min_eq_left (by omega), fdiv_pow, and_one_u _ (by omega)]
      rw [rholdsF, if_pos h1]
      congr 1
      rw [decide_eq_decide, mem_listF P s m p hn hm]
      omega
    have hl1 := hs.len
    have hl2 := hs.mem
    obtain ⟨K, hK⟩ : ∃ K : AH, K = h ++ [.row [.int .i64 p, .int .i64 n, .sl (l.map encG) .free] 54] := ⟨_, rfl⟩
    have Kl : K.length = h.length + 1 := by rw [hK]; simp
    have KD : ∀ j : AH, ∃ l, K ++ j = h ++ l := by subst hK; intro j; exact ⟨_, List.append_assoc ..⟩
    have Kg : ∀ j : AH, (K ++ j)[h.length]? = some (.row [.int .i64 p, .int .i64 n, .sl (l.map encG) .free] 54) := by subst hK; simp
    have Kj : ∀ (j : AH) r, (K ++ (j ++ [r]))[h.length + 1 + j.length]? = some r := by intro j r; rw [← Kl, hget_add]; simp
    have Sj : ∀ (j : AH) r r', (K ++ (j ++ [r])).set (h.length + 1 + j.length) r' = K ++ (j ++ [r']) := by intro j r r'; rw [← Kl, hset_add]; simp
    have Ki : ∀ J : AH, (K ++ J)[i]? = some (.row [.sl (encI P) .free] 29) := fun J => by rw [hK, List.append_assoc, hget_in _ hi']; exact hi
    have Ke : ∀ J : AH, (K ++ J)[j]? = some (.row [evalV i j] 142) := fun J => by rw [hK, List.append_assoc, hget_in _ hj']; exact hj
    rw [← hK]
    refine awp_loopL (β := AH) l [1, 2, 3, 4, 7, 22, 23, 24] (fun don _ => [(1, .int .u64 s), (2, .ptr (some (i, 0))), (3, .ptr (some (j, 0))), (4, .ptr (some (h.length, 0))), (7, .int .i64 (rcnt (fun p => decide (p ∈ listF P s)) don)), (22, .sl (l.map encG) .free), (23, .int .i64 l.length), (24, .int .i64 don.length)])
      (fun J => K ++ J) (fun _ _ _ => True) [] ?_ (by simp) trivial Ty.mixed (by kernel_rfl) ?_ ?_
    · simp (disch := omega) only [go_sem, seval, List.length_map]
      simp [rcnt]
    · rintro don x r J rfl _
      have hl3 := len_mid hl1
      have hrc := rcnt_le (fun p => decide (p ∈ listF P s)) don
      simp (disch := omega) only [go_sem, seval, List.map_append, List.map_cons, List.length_append]
      refine aIf.pos (by omega) ?_
      simp (disch := omega) only [go_sem, seval, Kl, Kj, Sj, Ke, evalV]
      refine ACalls.det (eval_calls_k Γ P s hs4 hP hn k x _ i j (mem_sz (by simp) hsz) (hl2 x (by simp)) (fun q hq => hin q ?_) (Ki _) (Ke _)) ?_
      · have e : ∀ a b : List Gt, inL q (a ++ b) = (inL q a || inL q b) := fun a b => by
          induction a with
          | nil => simp [inL]
          | cons y a ih => simp only [List.cons_append, inL, ih, Bool.or_assoc]
        simp [inG, e, inL, hq]
      simp (disch := omega) only [go_sem, seval]
      refine aBr.intro (fun hb => ?_) (fun hb => ?_) <;> simp (disch := omega) only [go_sem, seval]
      · refine roundL_next (J ++ [.row (encG x).cells 54]) trivial ?_ rfl
        simp (disch := omega) only [go_sem, seval, List.length_append, List.map_append, List.map_cons]
        simp [rcnt_app, rcnt, hb]
      · refine roundL_next (J ++ [.row (encG x).cells 54]) trivial ?_ rfl
        simp (disch := omega) only [go_sem, seval, List.length_append, List.map_append, List.map_cons]
        simp [rcnt_app, rcnt, hb]
    · intro J _
      simp (disch := omega) only [go_sem, seval, List.length_map]
      refine AWP.keep [4, 7] (aCode_ok Ty.mixed _ _ _ _ (by kernel_rfl) ?_)
      simp (disch := omega) only [go_sem, seval, Kg]
      refine ⟨KD J, ?_⟩
      rw [rholdsF, if_neg h1]
theorem eval_calls (Γ : Nat → Option (List AV)) (P : List Int) (s : Nat) (hs4 : s < 4096) (hP : P.length ≤ 12) (hn : P.Nodup) (g : Gt) (h : AH) (i j : Nat) (hs : Sh g) (hin : ∀ p, inG p g = true → p ∈ P) (hi : h[i]? = some (.row [.sl (encI P) .free] 29)) (hj : h[j]? = some (.row [evalV i j] 142)) :
    ACalls Try.prog Γ 98 [encG g, .int .u64 s, .ptr (some (i, 0)), .ptr (some (j, 0))] h fun v h' => h' = h ∧ v = .bool (rholdsF (fun p => decide (p ∈ listF P s)) g) :=
  eval_calls_k Γ P s hs4 hP hn _ g h i j (Nat.lt_succ_self _) hs hin hi hj
end Go.Proofs.Ytelehpccfaedjaa

/- Smallest sets, in plain lists: masks, order, what is least. No conditions. -/
set_option linter.unusedSimpArgs false
set_option linter.unusedVariables false
namespace Go.Proofs.Ytelehpccfaedjaa
open Go Go.Proofs Go.Abs

theorem sorted_eq {α : Type} {R : α → α → Prop} (irr : ∀ a, ¬ R a a) (tr : ∀ a b c, R a b → R b c → R a c) : ∀ a b : List α, a.Pairwise R → b.Pairwise R → (∀ x, x ∈ a ↔ x ∈ b) → a = b
  | [], [], _, _, _ => rfl
  | [], y :: b, _, _, h => by have := (h y).2 (by simp); simp at this
  | x :: a, [], _, _, h => by have := (h x).1 (by simp); simp at this
  | x :: a, y :: b, ha, hb, h => by
    rw [List.pairwise_cons] at ha hb
    have hxy : x = y := by
      rcases List.mem_cons.1 ((h x).1 (by simp)) with e | e
      · exact e
      rcases List.mem_cons.1 ((h y).2 (by simp)) with f | f
      · exact f.symm
      exact absurd (tr _ _ _ (ha.1 y f) (hb.1 x e)) (irr x)
    subst hxy
    congr 1
    refine sorted_eq irr tr a b ha.2 hb.2 fun z => ⟨fun hz => ?_, fun hz => ?_⟩
    · rcases List.mem_cons.1 ((h z).1 (List.mem_cons_of_mem _ hz)) with e | e
      · subst e; exact absurd (ha.1 z hz) (irr z)
      · exact e
    · rcases List.mem_cons.1 ((h z).2 (List.mem_cons_of_mem _ hz)) with e | e
      · subst e; exact absurd (hb.1 z hz) (irr z)
      · exact e
theorem lt_eq {a b : List Int} (ha : a.Pairwise (· < ·)) (hb : b.Pairwise (· < ·)) (h : ∀ x, x ∈ a ↔ x ∈ b) : a = b :=
  sorted_eq (R := (· < ·)) (fun _ => Int.lt_irrefl _) (fun _ _ _ => Int.lt_trans) a b ha hb h
theorem before_eq {a b : List (List Int)} (ha : a.Pairwise fun x y => beforeF x y = true) (hb : b.Pairwise fun x y => beforeF x y = true) (h : ∀ x, x ∈ a ↔ x ∈ b) : a = b :=
  sorted_eq (R := fun x y => beforeF x y = true) (fun x e => by rw [before_irr] at e; cases e) (fun _ _ _ => before_trans) a b ha hb h
theorem all_pw {l : List Int} (hl : l.Pairwise (· < ·)) : (allF l).Pairwise fun a b => beforeF a b = true :=
  (up_pw l hl _).imp fun {a b} h => by
    rw [beforeF]
    split
    · rename_i e; exact h.2 e
    · rename_i e; simp; omega
theorem pw_nodup {l : List Int} (h : l.Pairwise (· < ·)) : l.Nodup := h.imp fun h => by omega
theorem bef_nodup {l : List (List Int)} (h : l.Pairwise fun a b => beforeF a b = true) : l.Nodup := h.imp fun {a b} h e => by subst e; rw [before_irr] at h; cases h

/-! ### Sets of some people for which a condition holds -/
def Mono (P : List Int) (fine : List Int → Bool) : Prop := ∀ s t : List Int, s.Sublist P → t.Sublist P → (∀ x ∈ s, x ∈ t) → fine s = true → fine t = true
def Minl (P : List Int) (fine : List Int → Bool) (s : List Int) : Prop := s.Sublist P ∧ fine s = true ∧ ∀ t : List Int, t.Sublist P → fine t = true → (∀ x ∈ t, x ∈ s) → t = s
/-- The reference's list: in order, whoever has nobody of the list as a part. -/
def grdF (fine : List Int → Bool) : List (List Int) → List (List Int) → List (List Int)
  | out, [] => out
  | out, s :: r => if fine s && out.all (fun o => !decide (∀ x ∈ o, x ∈ s)) then grdF fine (out ++ [s]) r else grdF fine out r
def minsF (P : List Int) (fine : List Int → Bool) : List (List Int) := grdF fine [] (allF P)

theorem minl_in {P : List Int} {fine : List Int → Bool} (hP : P.Pairwise (· < ·)) : ∀ (n : Nat) (s : List Int), s.length ≤ n → s.Sublist P → fine s = true → ∃ t, Minl P fine t ∧ ∀ x ∈ t, x ∈ s
  | n, s, hn, hs, hf => by
    by_cases h : ∃ t : List Int, t.Sublist P ∧ fine t = true ∧ (∀ x ∈ t, x ∈ s) ∧ t ≠ s
    · obtain ⟨t, h1, h2, h3, h4⟩ := h
      have hts : t.Sublist s := sub_of_asc s t (hP.sublist h1) (hP.sublist hs) h3
      have hlt : t.length < s.length := Nat.lt_of_le_of_ne hts.length_le fun e => h4 (hts.eq_of_length e)
      cases n with
      | zero => omega
      | succ n =>
        obtain ⟨u, k1, k2⟩ := minl_in hP n t (by omega) h1 h2
        exact ⟨u, k1, fun x hx => h3 x (k2 x hx)⟩
    · exact ⟨s, ⟨hs, hf, fun t h1 h2 h3 => Classical.byContradiction fun h4 => h ⟨t, h1, h2, h3, h4⟩⟩, fun x hx => hx⟩
theorem minl_exists {P : List Int} {fine : List Int → Bool} (hP : P.Pairwise (· < ·)) {s : List Int} (hs : s.Sublist P) (hf : fine s = true) : ∃ t, Minl P fine t ∧ ∀ x ∈ t, x ∈ s := minl_in hP _ s (Nat.le_refl _) hs hf

theorem grd_inv {P : List Int} {fine : List Int → Bool} (hP : P.Pairwise (· < ·)) : ∀ (r don out : List (List Int)), allF P = don ++ r → out.Sublist don → (∀ s, s ∈ out ↔ s ∈ don ∧ Minl P fine s) →
    (grdF fine out r).Sublist (allF P) ∧ ∀ s, s ∈ grdF fine out r ↔ Minl P fine s
  | [], don, out, e, h1, h2 => by
    rw [List.append_nil] at e
    refine ⟨by rw [e]; exact h1, fun s => ?_⟩
    show s ∈ out ↔ _
    rw [h2]
    exact ⟨fun h => h.2, fun h => ⟨by rw [← e, mem_all]; exact h.1, h⟩⟩
  | s :: r, don, out, e, h1, h2 => by
    have hpw := all_pw hP
    rw [e, List.pairwise_append] at hpw
    have hs : s.Sublist P := by rw [← mem_all, e]; simp
    have hcond : (fine s && out.all (fun o => !decide (∀ x ∈ o, x ∈ s))) = true ↔ Minl P fine s := by
      rw [Bool.and_eq_true, List.all_eq_true]
      constructor
      · rintro ⟨k1, k2⟩
        refine ⟨hs, k1, fun t j1 j2 j3 => Classical.byContradiction fun hne => ?_⟩
        obtain ⟨u, m1, m2⟩ := minl_exists hP j1 j2
        have hus : ∀ x ∈ u, x ∈ s := fun x hx => j3 x (m2 x hx)
        have hul : u.length < s.length := by
          have a1 := (sub_of_asc t u (hP.sublist m1.1) (hP.sublist j1) m2).length_le
          have a2 := sub_of_asc s t (hP.sublist j1) (hP.sublist hs) j3
          have := Nat.lt_of_le_of_ne a2.length_le fun e => hne (a2.eq_of_length e)
          omega
        have hud : u ∈ don := by
          have hu : u ∈ allF P := (mem_all _ _).2 m1.1
          rw [e] at hu
          rcases List.mem_append.1 hu with hu | hu
          · exact hu
          rcases List.mem_cons.1 hu with rfl | hu
          · omega
          have := (List.pairwise_cons.1 hpw.2.1).1 u hu
          rw [beforeF, if_neg (by omega)] at this
          simp at this; omega
        have := k2 u ((h2 u).2 ⟨hud, m1⟩)
        simp at this
        obtain ⟨x, x1, x2⟩ := this
        exact x2 (hus x x1)
      · intro hm
        refine ⟨hm.2.1, fun o ho => ?_⟩
        have ho := (h2 o).1 ho
        simp only [Bool.not_eq_true', decide_eq_false_iff_not]
        intro hin
        have heq := hm.2.2 o ho.2.1 ho.2.2.1 hin
        subst heq
        have := hpw.2.2 o ho.1 o (by simp)
        rw [before_irr] at this; cases this
    rw [grdF]
    split
    · rename_i hc
      refine grd_inv hP r (don ++ [s]) (out ++ [s]) (by rw [e]; simp) (List.Sublist.append h1 (List.Sublist.refl _)) fun t => ?_
      rw [List.mem_append, List.mem_append, List.mem_singleton, h2]
      constructor
      · rintro (⟨k1, k2⟩ | rfl)
        · exact ⟨.inl k1, k2⟩
        · exact ⟨.inr rfl, hcond.1 hc⟩
      · rintro ⟨k1 | rfl, k2⟩
        · exact .inl ⟨k1, k2⟩
        · exact .inr rfl
    · rename_i hc
      refine grd_inv hP r (don ++ [s]) out (by rw [e]; simp) (h1.trans (List.sublist_append_left _ _)) fun t => ?_
      rw [List.mem_append, List.mem_singleton, h2]
      constructor
      · rintro ⟨k1, k2⟩; exact ⟨.inl k1, k2⟩
      · rintro ⟨k1 | rfl, k2⟩
        · exact ⟨k1, k2⟩
        · exact absurd (hcond.2 k2) hc
theorem mins_pw {P : List Int} (fine : List Int → Bool) (hP : P.Pairwise (· < ·)) : (minsF P fine).Pairwise fun a b => beforeF a b = true :=
  (all_pw hP).sublist (grd_inv (fine := fine) hP (allF P) [] [] rfl (List.Sublist.refl _) (by simp)).1
theorem mem_mins {P : List Int} {fine : List Int → Bool} (hP : P.Pairwise (· < ·)) (s : List Int) : s ∈ minsF P fine ↔ Minl P fine s :=
  (grd_inv hP (allF P) [] [] rfl (List.Sublist.refl _) (by simp)).2 s
/-- Any list in order that holds what is least is the reference's. -/
theorem mins_of {P : List Int} {fine : List Int → Bool} (hP : P.Pairwise (· < ·)) {l : List (List Int)} (hn : l.Nodup) (hl : l.Pairwise fun a b => beforeF b a = false) (hm : ∀ s, s ∈ l ↔ Minl P fine s) : l = minsF P fine := by
  refine before_eq ?_ (mins_pw fine hP) fun s => (hm s).trans (mem_mins hP s).symm
  refine (hn.and hl).imp fun {a b} h => ?_
  cases hb : beforeF a b with
  | true => rfl
  | false => exact absurd (before_total hb h.2) h.1

/-! ### Masks -/
def andNot (a b : Nat) : Nat := (BitVec.ofNat 64 a &&& ~~~ BitVec.ofNat 64 b).toNat
theorem andNot_bit (a b j : Nat) (hj : j < 64) : (andNot a b).testBit j = (a.testBit j && !b.testBit j) := by
  rw [andNot, BitVec.testBit_toNat, BitVec.getLsbD_and, BitVec.getLsbD_not, BitVec.getLsbD_ofNat, BitVec.getLsbD_ofNat]
  simp only [hj, decide_true, Bool.true_and]
theorem andNot_le (a b : Nat) (ha : a < 2 ^ 64) : andNot a b ≤ a := by
  rw [andNot, BitVec.toNat_and, BitVec.toNat_ofNat, Nat.mod_eq_of_lt ha]
  exact Nat.and_le_left
theorem bit_at (s m : Nat) : s / 2 ^ m % 2 = 1 ↔ s.testBit m = true := by
  rw [Nat.testBit_eq_decide_div_mod_eq]; simp
theorem mem_bit {l : List Int} {s m : Nat} {p : Int} (hn : l.Nodup) (h : l[m]? = some p) : p ∈ listF l s ↔ s.testBit m = true := by rw [mem_listF l s m p hn h, bit_at]
theorem listF_surj {P t : List Int} (h : t.Sublist P) : ∃ s, s < 2 ^ P.length ∧ listF P s = t := by
  induction h with
  | slnil => exact ⟨0, by simp, rfl⟩
  | @cons a b x _ ih =>
    obtain ⟨s, h1, h2⟩ := ih
    refine ⟨2 * s, by simp [Nat.pow_succ]; omega, ?_⟩
    rw [listF, if_neg (by omega), Nat.mul_div_cancel_left _ (by decide)]; exact h2
  | @cons_cons a b x _ ih =>
    obtain ⟨s, h1, h2⟩ := ih
    refine ⟨2 * s + 1, by simp [Nat.pow_succ]; omega, ?_⟩
    rw [listF, if_pos (by omega), show (2 * s + 1) / 2 = s from by omega, h2]
theorem listF_inj : ∀ (P : List Int) (s t : Nat), P.Nodup → s < 2 ^ P.length → t < 2 ^ P.length → listF P s = listF P t → s = t
  | [], s, t, _, h1, h2, _ => by simp at h1 h2; omega
  | x :: r, s, t, hn, h1, h2, h => by
    rw [List.nodup_cons] at hn
    rw [List.length_cons, Nat.pow_succ] at h1 h2
    have hx : ∀ s, x ∉ listF r s := fun s e => hn.1 ((listF_sub r _).subset e)
    have ih := listF_inj r (s / 2) (t / 2) hn.2 (by omega) (by omega)
    simp only [listF] at h
    split at h <;> split at h
    · rw [List.cons.injEq] at h; have := ih h.2; omega
    · exact absurd (h ▸ List.mem_cons_self) (hx _)
    · exact absurd (h ▸ List.mem_cons_self) (hx _)
    · have := ih h; omega
def fineM (P : List Int) (fine : List Int → Bool) (s : Nat) : Bool := fine (listF P s)
/-- What the program looks at. -/
def leastF (P : List Int) (fine : List Int → Bool) (s : Nat) : Bool := fine (listF P s) && (List.range P.length).all fun i => !s.testBit i || !fine (listF P (andNot s (2 ^ i)))
theorem pow_bit2 (i j : Nat) : (2 ^ i : Nat).testBit j = decide (i = j) := Nat.testBit_two_pow
theorem least_iff {P : List Int} {fine : List Int → Bool} (hP : P.Pairwise (· < ·)) (hl : P.length ≤ 12) (hm : Mono P fine) (s : Nat) : leastF P fine s = true ↔ Minl P fine (listF P s) := by
  have hn := pw_nodup hP
  have hpw : ∀ m, (listF P m).Pairwise (· < ·) := fun m => hP.sublist (listF_sub P m)
  rw [leastF, Bool.and_eq_true, List.all_eq_true]
  constructor
  · rintro ⟨h1, h2⟩
    refine ⟨listF_sub P s, h1, fun t k1 k2 k3 => lt_eq (hP.sublist k1) (hpw s) fun x => ⟨k3 x, fun hx => Classical.byContradiction fun hxt => ?_⟩⟩
    obtain ⟨i, hi, rfl⟩ := List.mem_iff_getElem.1 ((listF_sub P s).subset hx)
    have hi' : P[i]? = some P[i] := by simp [hi]
    have hb := (mem_bit hn hi').1 hx
    have := h2 i (by simpa using hi)
    rw [hb] at this
    simp at this
    have hf := hm t (listF P (andNot s (2 ^ i))) k1 (listF_sub _ _) (fun y hy => ?_) k2
    · rw [this] at hf; cases hf
    · obtain ⟨j, hj, rfl⟩ := List.mem_iff_getElem.1 (k1.subset hy)
      have hj' : P[j]? = some P[j] := by simp [hj]
      rw [mem_bit hn hj', andNot_bit _ _ _ (by omega), pow_bit2, (mem_bit hn hj').1 (k3 _ hy)]
      have : i ≠ j := fun e => by subst e; exact hxt hy
      simp [this]
  · rintro ⟨h1, h2, h3⟩
    refine ⟨h2, fun i hi => ?_⟩
    rw [List.mem_range] at hi
    cases hb : s.testBit i with
    | false => rfl
    | true =>
      cases hf : fine (listF P (andNot s (2 ^ i))) with
      | false => rfl
      | true =>
        have hi' : P[i]? = some P[i] := by simp [hi]
        have he := h3 _ (listF_sub _ _) hf fun x hx => by
          obtain ⟨j, hj, rfl⟩ := List.mem_iff_getElem.1 ((listF_sub P _).subset hx)
          have hj' : P[j]? = some P[j] := by simp [hj]
          rw [mem_bit hn hj', andNot_bit _ _ _ (by omega), Bool.and_eq_true] at hx
          rw [mem_bit hn hj']; exact hx.1
        have h4 : P[i] ∈ listF P s := (mem_bit hn hi').2 hb
        rw [← he, mem_bit hn hi', andNot_bit _ _ _ (by omega), pow_bit2] at h4
        simp at h4
/-- What the program yields. -/
def yldF (P : List Int) (fine : List Int → Bool) (n : Nat) : List (List Int) := ((List.range n).filter (leastF P fine)).map (listF P)
theorem yld_succ (P : List Int) (fine : List Int → Bool) (n : Nat) : yldF P fine (n + 1) = yldF P fine n ++ (if leastF P fine n then [listF P n] else []) := by
  rw [yldF, List.range_succ, List.filter_append, List.map_append, yldF]
  congr 1
  simp only [List.filter_cons, List.filter_nil]
  split <;> rfl
theorem yld_nodup {P : List Int} {fine : List Int → Bool} (hP : P.Pairwise (· < ·)) : (yldF P fine (2 ^ P.length)).Nodup := by
  rw [yldF, List.Nodup, List.pairwise_map]
  refine List.Pairwise.imp_of_mem (R := (· ≠ ·)) ?_ (List.Pairwise.filter _ List.nodup_range)
  intro a b ha hb hne e
  simp only [List.mem_filter, List.mem_range] at ha hb
  exact hne (listF_inj P a b (pw_nodup hP) ha.1 hb.1 e)
theorem mem_yld {P : List Int} {fine : List Int → Bool} (hP : P.Pairwise (· < ·)) (hl : P.length ≤ 12) (hm : Mono P fine) (t : List Int) : t ∈ yldF P fine (2 ^ P.length) ↔ Minl P fine t := by
  rw [yldF, List.mem_map]
  constructor
  · rintro ⟨s, h1, rfl⟩
    simp only [List.mem_filter, List.mem_range] at h1
    exact (least_iff hP hl hm s).1 h1.2
  · intro h
    obtain ⟨s, h1, rfl⟩ := listF_surj h.1
    exact ⟨s, by simp only [List.mem_filter, List.mem_range]; exact ⟨h1, (least_iff hP hl hm s).2 h⟩, rfl⟩
theorem yld_mins {P : List Int} {fine : List Int → Bool} (hP : P.Pairwise (· < ·)) (hl : P.length ≤ 12) (hm : Mono P fine) {l : List (List Int)} (hp : l.Perm (yldF P fine (2 ^ P.length))) (hs : l.Pairwise fun a b => beforeF b a = false) : l = minsF P fine :=
  mins_of hP (hp.nodup_iff.2 (yld_nodup hP)) hs fun s => hp.mem_iff.trans (mem_yld hP hl hm s)
theorem yld_len {P : List Int} {fine : List Int → Bool} (hP : P.Pairwise (· < ·)) (hl : P.length ≤ 12) (hm : Mono P fine) : (yldF P fine (2 ^ P.length)).length = (minsF P fine).length :=
  List.Perm.length_eq ((List.perm_ext_iff_of_nodup (yld_nodup hP) (bef_nodup (mins_pw fine hP))).2 fun s => (mem_yld hP hl hm s).trans (mem_mins hP s).symm)
/-- The others. -/
theorem listF_other {P : List Int} (hP : P.Pairwise (· < ·)) (hl : P.length ≤ 12) (s : Nat) : listF P (andNot (2 ^ P.length - 1) s) = wtF P (listF P s) := by
  have hn := pw_nodup hP
  refine lt_eq (hP.sublist (listF_sub _ _)) (hP.sublist List.filter_sublist) fun x => ?_
  rw [mem_wt]
  constructor
  · intro hx
    have hxP := (listF_sub P _).subset hx
    obtain ⟨j, hj, rfl⟩ := List.mem_iff_getElem.1 hxP
    have hj' : P[j]? = some P[j] := by simp [hj]
    rw [mem_bit hn hj', andNot_bit _ _ _ (by omega), Bool.and_eq_true] at hx
    refine ⟨hxP, fun h => ?_⟩
    rw [mem_bit hn hj'] at h
    rw [h] at hx; simp at hx
  · rintro ⟨h1, h2⟩
    obtain ⟨j, hj, rfl⟩ := List.mem_iff_getElem.1 h1
    have hj' : P[j]? = some P[j] := by simp [hj]
    rw [mem_bit hn hj'] at h2
    rw [mem_bit hn hj', andNot_bit _ _ _ (by omega), Nat.testBit_two_pow_sub_one]
    simp at h2
    simp [h2, hj]
theorem listF_all {P : List Int} (hP : P.Pairwise (· < ·)) : listF P (2 ^ P.length - 1) = P := by
  have hn := pw_nodup hP
  refine lt_eq (hP.sublist (listF_sub _ _)) hP fun x => ⟨fun h => (listF_sub P _).subset h, fun h => ?_⟩
  obtain ⟨j, hj, rfl⟩ := List.mem_iff_getElem.1 h
  have hj' : P[j]? = some P[j] := by simp [hj]
  rw [mem_bit hn hj', Nat.testBit_two_pow_sub_one]; simp [hj]

/-! ### A formula's people -/
def holdP (g : Gt) (s : List Int) : Bool := permF g s
def blkP (g : Gt) (s : List Int) : Bool := !permF g (wtF (pplF g) s)
theorem sub_asc {g : Gt} (h : checkF g = 0) {s : List Int} (hs : s.Sublist (pplF g)) : ascF (-1) s = true := ascF_sub hs (asc_ppl (checkF_right h))
theorem hold_mono {g : Gt} (h : checkF g = 0) : Mono (pplF g) (holdP g) := fun _ _ hs ht hst hf => perm_sub h (sub_asc h hs) (sub_asc h ht) (fun x _ hx => hst x hx) hf
theorem blk_mono {g : Gt} (h : checkF g = 0) : Mono (pplF g) (blkP g) := fun s t hs ht hst hf => by
  have ha := asc_ppl (checkF_right h)
  simp only [blkP, Bool.not_eq_true'] at hf ⊢
  cases hk : permF g (wtF (pplF g) t) with
  | false => rfl
  | true =>
    rw [perm_sub h (asc_wt t ha) (asc_wt s ha) (fun x _ hx => ?_) hk] at hf
    · cases hf
    · rw [mem_wt] at hx ⊢; exact ⟨hx.1, fun hxs => hx.2 (hst x hxs)⟩
theorem ppl_lt {g : Gt} (h : checkF g = 0) : (pplF g).Pairwise (· < ·) := asc_pw (asc_ppl (checkF_right h))
end Go.Proofs.Ytelehpccfaedjaa

/- Lists that agree, in plain lists. No conditions. -/
set_option linter.unusedSimpArgs false
set_option linter.unusedVariables false
namespace Go.Proofs.Ytelehpccfaedjaa
open Go Go.Proofs Go.Abs

def incF : List Int → Bool
  | [] => true
  | [_] => true
  | x :: y :: r => decide (x < y) && incF (y :: r)
theorem incF_iff : ∀ l : List Int, incF l = true ↔ l.Pairwise (· < ·)
  | [] => by simp [incF]
  | [_] => by simp [incF]
  | x :: y :: r => by
    rw [incF, Bool.and_eq_true, incF_iff (y :: r), decide_eq_true_eq]
    constructor
    · rintro ⟨h1, h2⟩
      refine List.pairwise_cons.2 ⟨fun z hz => ?_, h2⟩
      rcases List.mem_cons.1 hz with rfl | hz
      · exact h1
      · have := (List.pairwise_cons.1 h2).1 z hz; omega
    · intro h
      exact ⟨(List.pairwise_cons.1 h).1 y (by simp), (List.pairwise_cons.1 h).2⟩
def someF (l : List (List Int)) (s : List Int) : Bool := l.any fun a => decide (∀ x ∈ a, x ∈ s)
theorem someF_iff (l : List (List Int)) (s : List Int) : someF l s = true ↔ ∃ a ∈ l, ∀ x ∈ a, x ∈ s := by simp [someF]
def befL (don : List (List Int)) (s : List Int) : Bool := match don.getLast? with
  | none => true
  | some t => beforeF t s
/-- One more set behind others. -/
def stepF (P : List Int) (don : List (List Int)) (s : List Int) : Bool := incF s && decide (∀ x ∈ s, x ∈ P) && befL don s && don.all fun t => !decide (∀ x ∈ t, x ∈ s)
def ordF (P : List Int) : List (List Int) → List (List Int) → Bool
  | _, [] => true
  | don, s :: r => stepF P don s && ordF P (don ++ [s]) r
def coverF (P : List Int) (l m : List (List Int)) : Bool := (allF P).all fun s => someF l s || someF m (wtF P s)
def agrF (g : Gt) (l m : List (List Int)) : Bool × Int :=
  if errF g = 0 then (ordF (pplF g) [] l && ordF (pplF g) [] m && l.all (holdP g) && m.all (blkP g) && coverF (pplF g) l m, 0) else (false, errF g)
structure OrdL (P : List Int) (l : List (List Int)) : Prop where
  sub : ∀ s ∈ l, s.Sublist P
  bef : l.Pairwise fun a b => beforeF a b = true
  none : l.Pairwise fun a b => ¬ ∀ x ∈ a, x ∈ b
theorem ord_iff {P : List Int} (hP : P.Pairwise (· < ·)) : ∀ (l don : List (List Int)), ordF P don l = true ↔ OrdL P l ∧ (∀ t, don.getLast? = some t → ∀ s ∈ l, beforeF t s = true) ∧ ∀ t ∈ don, ∀ s ∈ l, ¬ ∀ x ∈ t, x ∈ s
  | [], don => by simp [ordF]; exact ⟨by simp, .nil, .nil⟩
  | s :: r, don => by
    rw [ordF, Bool.and_eq_true, ord_iff hP r (don ++ [s])]
    have hst : stepF P don s = true ↔ s.Sublist P ∧ (∀ t, don.getLast? = some t → beforeF t s = true) ∧ ∀ t ∈ don, ¬ ∀ x ∈ t, x ∈ s := by
      simp only [stepF, Bool.and_eq_true, incF_iff, decide_eq_true_eq, List.all_eq_true, Bool.not_eq_true', decide_eq_false_iff_not]
      have hb : befL don s = true ↔ ∀ t, don.getLast? = some t → beforeF t s = true := by
        rw [befL]
        cases don.getLast? with
        | none => simp
        | some t => simp
      rw [hb]
      constructor
      · rintro ⟨⟨⟨h1, h2⟩, h3⟩, h4⟩; exact ⟨sub_of_asc P s h1 hP h2, h3, h4⟩
      · rintro ⟨h1, h2, h3⟩; exact ⟨⟨⟨hP.sublist h1, h1.subset⟩, h2⟩, h3⟩
    rw [hst]
    simp only [List.getLast?_append, List.getLast?_singleton, Option.some_or, Option.some.injEq, forall_eq', List.mem_append, List.mem_singleton]
    constructor
    · rintro ⟨⟨h1, h2, h3⟩, ⟨k1, k2, k3⟩, k4, k5⟩
      refine ⟨⟨?_, List.pairwise_cons.2 ⟨k4, k2⟩, List.pairwise_cons.2 ⟨k5 s (.inr rfl), k3⟩⟩, ?_, ?_⟩
      · intro t ht
        rcases List.mem_cons.1 ht with rfl | ht
        · exact h1
        · exact k1 t ht
      · intro t ht u hu
        rcases List.mem_cons.1 hu with rfl | hu
        · exact h2 t ht
        · exact before_trans (h2 t ht) (k4 u hu)
      · intro t ht u hu
        rcases List.mem_cons.1 hu with rfl | hu
        · exact h3 t ht
        · exact k5 t (.inl ht) u hu
    · rintro ⟨⟨h1, h2, h3⟩, h4, h5⟩
      rw [List.pairwise_cons] at h2 h3
      refine ⟨⟨h1 s (by simp), fun t ht => h4 t ht s (by simp), fun t ht => h5 t ht s (by simp)⟩, ⟨fun t ht => h1 t (List.mem_cons_of_mem _ ht), h2.2, h3.2⟩, h2.1, ?_⟩
      rintro t (ht | rfl) u hu
      · exact h5 t ht u (List.mem_cons_of_mem _ hu)
      · exact h3.1 u hu
theorem ord_iff0 {P : List Int} (hP : P.Pairwise (· < ·)) (l : List (List Int)) : ordF P [] l = true ↔ OrdL P l := by
  rw [ord_iff hP]; simp

theorem mins_ord {P : List Int} (fine : List Int → Bool) (hP : P.Pairwise (· < ·)) : OrdL P (minsF P fine) := by
  refine ⟨fun s hs => ((mem_mins hP s).1 hs).1, mins_pw fine hP, ?_⟩
  refine (mins_pw fine hP).imp_of_mem fun {a b} ha hb h hin => ?_
  have := ((mem_mins hP b).1 hb).2.2 a ((mem_mins hP a).1 ha).1 ((mem_mins hP a).1 ha).2.1 hin
  subst this
  rw [before_irr] at h; cases h
theorem mins_some {P : List Int} {fine : List Int → Bool} (hP : P.Pairwise (· < ·)) (hm : Mono P fine) {s : List Int} (hs : s.Sublist P) : someF (minsF P fine) s = fine s := by
  rw [Bool.eq_iff_iff, someF_iff]
  constructor
  · rintro ⟨a, h1, h2⟩
    have := (mem_mins hP a).1 h1
    exact hm a s this.1 hs h2 this.2.1
  · intro h
    obtain ⟨t, h1, h2⟩ := minl_exists hP hs h
    exact ⟨t, (mem_mins hP t).2 h1, h2⟩
theorem wt_sub (P s : List Int) : (wtF P s).Sublist P := List.filter_sublist
theorem wt_wt' {P s : List Int} (hP : P.Pairwise (· < ·)) (hs : s.Sublist P) : wtF P (wtF P s) = s := by
  refine lt_eq (hP.sublist (wt_sub _ _)) (hP.sublist hs) fun x => ?_
  rw [mem_wt, mem_wt]
  constructor
  · rintro ⟨h1, h2⟩; exact Classical.byContradiction fun h => h2 ⟨h1, h⟩
  · intro h; exact ⟨hs.subset h, fun k => k.2 h⟩
/-- Half of an agreement: lists that cover are the smallest sets. -/
theorem agree_half {P : List Int} {fine fino : List Int → Bool} (hP : P.Pairwise (· < ·)) (hm : Mono P fine) (hd : ∀ s, s.Sublist P → fino s = !fine (wtF P s)) {a b : List (List Int)} (ha : OrdL P a) (hb : OrdL P b)
    (fa : ∀ s ∈ a, fine s = true) (fb : ∀ s ∈ b, fino s = true) (hc : ∀ s, s.Sublist P → someF a s = true ∨ someF b (wtF P s) = true) : a = minsF P fine := by
  have hin : ∀ s, Minl P fine s → s ∈ a := fun s hs => by
    rcases hc s hs.1 with h | h
    · obtain ⟨t, h1, h2⟩ := (someF_iff _ _).1 h
      have := hs.2.2 t (ha.sub t h1) (fa t h1) h2
      exact this ▸ h1
    · obtain ⟨t, h1, h2⟩ := (someF_iff _ _).1 h
      have h3 := fb t h1
      rw [hd t (hb.sub t h1)] at h3
      rw [hm s (wtF P t) hs.1 (wt_sub _ _) (fun x hx => by rw [mem_wt]; exact ⟨hs.1.subset hx, fun k => by have := h2 x k; rw [mem_wt] at this; exact this.2 hx⟩) hs.2.1] at h3
      cases h3
  refine before_eq ha.bef (mins_pw fine hP) fun s => ⟨fun hs => ?_, fun hs => hin s ((mem_mins hP s).1 hs)⟩
  rw [mem_mins hP]
  obtain ⟨t, h1, h2⟩ := minl_exists hP (ha.sub s hs) (fa s hs)
  have ht := hin t h1
  by_cases hts : t = s
  · exact hts ▸ h1
  obtain ⟨l1, l2, rfl⟩ := List.append_of_mem hs
  have hn := ha.none
  have hbf := ha.bef
  rw [List.pairwise_append, List.pairwise_cons] at hn hbf
  rcases List.mem_append.1 ht with ht | ht
  · exact absurd h2 (hn.2.2 t ht s (by simp))
  rcases List.mem_cons.1 ht with ht | ht
  · exact absurd ht hts
  have h4 := hbf.2.1.1 t ht
  have h5 : t.Sublist s := sub_of_asc s t (hP.sublist h1.1) (hP.sublist (ha.sub s (by simp))) h2
  have h6 := Nat.lt_of_le_of_ne h5.length_le fun e => hts (h5.eq_of_length e)
  rw [beforeF, if_neg (by omega)] at h4
  simp at h4; omega

theorem blk_dual {g : Gt} (s : List Int) : blkP g s = !holdP g (wtF (pplF g) s) := rfl
theorem hold_dual {g : Gt} (h : checkF g = 0) (s : List Int) (hs : s.Sublist (pplF g)) : holdP g s = !blkP g (wtF (pplF g) s) := by
  rw [blk_dual, wt_wt' (ppl_lt h) hs, Bool.not_not]
def setsF (g : Gt) : List (List Int) := minsF (pplF g) (holdP g)
def blksF (g : Gt) : List (List Int) := minsF (pplF g) (blkP g)
theorem cover_own {g : Gt} (h : checkF g = 0) : coverF (pplF g) (setsF g) (blksF g) = true := by
  rw [coverF, List.all_eq_true]
  intro s hs
  have hs := (mem_all _ _).1 hs
  rw [setsF, blksF, mins_some (ppl_lt h) (hold_mono h) hs, mins_some (ppl_lt h) (blk_mono h) (wt_sub _ _), blk_dual, wt_wt' (ppl_lt h) hs]
  simp
theorem agree_iff {g : Gt} (h : errF g = 0) (a b : List (List Int)) : agrF g a b = (decide (a = setsF g ∧ b = blksF g), 0) := by
  have hc := (errF_facts h).1
  have hP := ppl_lt hc
  rw [agrF, if_pos h]
  congr 1
  rw [Bool.eq_iff_iff, decide_eq_true_eq, Bool.and_eq_true, Bool.and_eq_true, Bool.and_eq_true, Bool.and_eq_true, ord_iff0 hP, ord_iff0 hP, List.all_eq_true, List.all_eq_true]
  constructor
  · rintro ⟨⟨⟨⟨h1, h2⟩, h3⟩, h4⟩, h5⟩
    rw [coverF, List.all_eq_true] at h5
    have h6 : ∀ s, s.Sublist (pplF g) → someF a s = true ∨ someF b (wtF (pplF g) s) = true := fun s hs => by
      have := h5 s ((mem_all _ _).2 hs)
      rwa [Bool.or_eq_true] at this
    refine ⟨agree_half hP (hold_mono hc) (fun s _ => blk_dual s) h1 h2 h3 h4 h6, agree_half hP (blk_mono hc) (fun s hs => hold_dual hc s hs) h2 h1 h4 h3 fun s hs => ?_⟩
    have := h6 (wtF (pplF g) s) (wt_sub _ _)
    rw [wt_wt' hP hs] at this
    exact this.symm
  · rintro ⟨rfl, rfl⟩
    exact ⟨⟨⟨⟨mins_ord _ hP, mins_ord _ hP⟩, fun s hs => ((mem_mins hP s).1 hs).2.1⟩, fun s hs => ((mem_mins hP s).1 hs).2.1⟩, cover_own hc⟩
/-- Whoever is in both. -/
theorem sets_meet {g : Gt} (h : checkF g = 0) {a b : List Int} (ha : a ∈ setsF g) (hb : b ∈ blksF g) : ∃ x ∈ a, x ∈ b := by
  have hP := ppl_lt h
  have h1 := (mem_mins hP a).1 ha
  have h2 := (mem_mins hP b).1 hb
  refine Classical.byContradiction fun hn => ?_
  have h3 := h2.2.1
  rw [blk_dual, hold_mono h a (wtF (pplF g) b) h1.1 (wt_sub _ _) (fun x hx => by rw [mem_wt]; exact ⟨h1.1.subset hx, fun k => hn ⟨x, hx, k⟩⟩) h1.2.1] at h3
  cases h3
theorem less_not {P : List Int} {fine : List Int → Bool} (hP : P.Pairwise (· < ·)) {s t : List Int} (hs : s ∈ minsF P fine) (ht : t.Sublist P) {p : Int} (hp : p ∈ s) (he : ∀ x, x ∈ t ↔ x ∈ s ∧ x ≠ p) : fine t = false := by
  cases hf : fine t with
  | false => rfl
  | true =>
    have := ((mem_mins hP s).1 hs).2.2 t ht hf fun x hx => ((he x).1 hx).1
    subst this
    exact absurd rfl ((he p).1 hp).2
/-- Who is in one of the smallest sets is in one of the smallest blocking sets. -/
theorem met_both {P : List Int} {fine fino : List Int → Bool} (hP : P.Pairwise (· < ·)) (hm : Mono P fine) (hd : ∀ s, s.Sublist P → fino s = !fine (wtF P s)) {s : List Int} (hs : s ∈ minsF P fine) {p : Int} (hp : p ∈ s) : ∃ t ∈ minsF P fino, p ∈ t := by
  have h1 := (mem_mins hP s).1 hs
  have hf := less_not hP hs ((List.filter_sublist (p := fun x => decide (x ≠ p))).trans h1.1) hp (fun x => by simp)
  obtain ⟨t, h2, h3⟩ := minl_exists (fine := fino) hP (wt_sub P (s.filter fun x => decide (x ≠ p))) (by
    rw [hd _ (wt_sub _ _), wt_wt' hP (List.filter_sublist.trans h1.1), hf]; rfl)
  refine ⟨t, (mem_mins hP t).2 h2, Classical.byContradiction fun hpt => ?_⟩
  have h4 := h2.2.1
  rw [hd t h2.1, hm s (wtF P t) h1.1 (wt_sub _ _) (fun x hx => ?_) h1.2.1] at h4
  · cases h4
  · rw [mem_wt]
    refine ⟨h1.1.subset hx, fun k => ?_⟩
    have := h3 x k
    rw [mem_wt] at this
    refine this.2 ?_
    rw [List.mem_filter]
    exact ⟨hx, by simp; intro e; subst e; exact hpt k⟩
end Go.Proofs.Ytelehpccfaedjaa

/- Sort and Compact on lists of one's own; what the program asks of a formula. No conditions. -/
set_option linter.unusedSimpArgs false
set_option linter.unusedVariables false
namespace Go.Proofs.Ytelehpccfaedjaa
open Go Go.Proofs Go.Abs

theorem ACalls.looseR {P : Program} {Γ : Nat → Option (List AV)} {f : FuncId} {args : List AV} {h : AH} {R : AV → AH → Prop} (H : ACalls P Γ f args h fun v h' => R (loose v) h') : ACalls P Γ f args h R :=
  ⟨H.1, fun G w vs hI hv => (H.2 G w vs hI hv).mono fun e w' hr => by
    obtain ⟨v, G', av, h', k1, k2, k3, k4, k5⟩ := hr
    exact ⟨v, G', _, h', k1, k2, k3, loose_VR k4, k5⟩⟩
theorem mid_at (H j k : AH) (q : Nat) (hq : q < j.length) : (H ++ (j ++ k))[H.length + q]? = j[q]? := by
  rw [hget_add, List.getElem?_append_left hq]
theorem mid_set (H j k : AH) (q : Nat) (hq : q < j.length) (o : AObj) : (H ++ (j ++ k)).set (H.length + q) o = H ++ (j.set q o ++ k) := by
  rw [hset_add, List.set_append_left _ _ hq]
theorem sortM_calls (Γ : Nat → Option (List AV)) (H j k : AH) (T : TypeId) (v : AV) (l : List Int) (hv : OwnM H.length j T v (encI l)) (hl : l.length ≤ 1000000) :
    ACalls Try.prog Γ 80 [v] (H ++ (j ++ k)) fun _ h' => ∃ j', j'.length = j.length ∧ h' = H ++ (j' ++ k) ∧ OwnM H.length j' T v (encI (sortI l)) := by
  rcases hv with ⟨rfl, h0⟩ | ⟨q, c, pad, rfl, h2, h3, h4⟩
  · have hl0 : l = [] := by cases l with | nil => rfl | cons x r => simp [encI] at h0
    subst hl0
    exact (sort0_calls Γ .full _).mono fun v h' e => ⟨j, rfl, e, .inl ⟨rfl, rfl⟩⟩
  · have hq := (List.getElem?_eq_some_iff.1 h2).1
    rw [encI_len]
    refine (sortAll_calls Γ (H.length + q) c T l pad _ (by rw [mid_at _ _ _ _ hq]; exact h2) (by omega)).mono fun v h' e => ?_
    refine ⟨j.set q (.row (encI (sortI l) ++ pad) T), by simp, by rw [e.2, mid_set _ _ _ _ hq], .inr ⟨q, c, pad, ?_, by simp [hq], ?_, h4⟩⟩
    · rw [encI_len, (sortI_perm l).length_eq]
    · rw [h3, encI_len, encI_len, (sortI_perm l).length_eq]
theorem compactM_calls (Γ : Nat → Option (List AV)) (H j k : AH) (T : TypeId) (v : AV) (l : List Int) (hv : OwnM H.length j T v (encI l)) (hl : l.length ≤ 1000000) :
    ACalls Try.prog Γ 97 [v] (H ++ (j ++ k)) fun v' h' => v' = .sl (encI (Go.Lib.compact l)) .free ∧ ∃ j', j'.length = j.length ∧ h' = H ++ (j' ++ k) := by
  have he := enters_of Try.func97 (by kernel_rfl) rfl
  rcases hv with ⟨rfl, h0⟩ | ⟨q, c, pad, rfl, h2, h3, h4⟩
  · have hl0 : l = [] := by cases l with | nil => rfl | cons x r => simp [encI] at h0
    subst hl0
    refine ACalls.looseR ((acalls_compact0 (Γ := Γ) Try.laysNm220 (f := 97) (by kernel_rfl) he _).mono fun v h' e => ?_)
    obtain ⟨rfl, rfl⟩ := e
    exact ⟨rfl, j, rfl, rfl⟩
  · have hq := (List.getElem?_eq_some_iff.1 h2).1
    rw [encI_len]
    have hg : (H ++ (j ++ k))[H.length + q]? = some (.row (encI l ++ pad) T) := by rw [mid_at _ _ _ _ hq]; exact h2
    have hc : l.length ≤ c := by rw [h3, encI_len]; omega
    have hcl := compact_le l
    refine ACalls.freeze ((acalls_compact (Γ := Γ) Try.laysNm220 (f := 97) (by kernel_rfl) he (H.length + q) c T l pad _ hg (by omega) hc).mono fun v h' e => ?_)
    obtain ⟨rfl, rfl⟩ := e
    have e1 : ∀ o, ((H ++ (j ++ k)).set (H.length + q) o)[H.length + q]? = some o := fun o => by
      rw [List.getElem?_set_self]
      simp only [List.length_append]
      omega
    refine ⟨_, _, _, _, e1 _, Froze.set (e1 _), ?_, ?_⟩
    · have e2 : (Go.Lib.compact l ++ List.replicate (l.length - (Go.Lib.compact l).length) 0).map (fun x => AV.int .i64 x) ++ pad = encI (Go.Lib.compact l) ++ (encI (List.replicate (l.length - (Go.Lib.compact l).length) 0) ++ pad) := by
        rw [List.map_append, List.append_assoc]; rfl
      rw [e2]
      refine fz_own _ c _ _ (by omega) fun a ha => ?_
      rcases List.mem_append.1 ha with ha | ha
      · obtain ⟨x, _, rfl⟩ := List.mem_map.1 ha; rfl
      · exact h4 a ha
    · exact ⟨(j.set q _).set q .frozen, by simp, by rw [mid_set _ _ _ _ hq, mid_set _ _ _ _ (by simpa using hq)]⟩
mutual
theorem occ_in (x : Int) : ∀ g : Gt, rightF g = true → (x ∈ occF g ↔ inG x g = true)
  | .mk p n l, hr => by
    rw [occF, inG]
    by_cases hp : 0 ≤ p
    · simp only [rightF, if_pos hp, Bool.and_eq_true, List.isEmpty_iff, decide_eq_true_eq] at hr
      obtain ⟨⟨h1, h2⟩, rfl⟩ := hr
      simp [inL, hp, eq_comm]
    · rw [if_neg hp, occ_inL x l (right_gate hp hr).2]; simp [hp]
theorem occ_inL (x : Int) : ∀ l : List Gt, rightL l = true → (x ∈ occL l ↔ inL x l = true)
  | [], _ => by simp [occL, inL]
  | g :: r, hr => by
    simp only [rightL, Bool.and_eq_true] at hr
    rw [occL, inL, List.mem_append, occ_in x g hr.1, occ_inL x r hr.2, Bool.or_eq_true]
end
/-- The program's list of people is the reference's. -/
theorem people_eq {g : Gt} (h : checkF g = 0) : Go.Lib.compact (sortI (occF g)) = pplF g := by
  obtain ⟨h1, h2⟩ := compact_sorted (sortI_le (occF g))
  refine lt_eq h1 (ppl_lt h) fun x => ?_
  rw [h2, (sortI_perm _).mem_iff, occ_in x g (checkF_right h), mem_ppl (checkF_right h)]
end Go.Proofs.Ytelehpccfaedjaa
