/- Texts joined: MinU. No conditions. -/
import Derived.Test.YtnioapinljedmaaMrW
/- The law MinimalExchanged: the code. No conditions. -/
set_option linter.unusedSimpArgs false
set_option linter.unusedVariables false
namespace Go.Proofs.Ytnioapinljedmaa
open Go Go.Proofs Go.Abs

def turnV (i j : Nat) : AV := .func 41 [] [.ptr (some (i, 0)), .ptr (some (j, 0))]
def movV (i j : Nat) : AV := .func 42 [] [.ptr (some (i, 0)), .ptr (some (j, 0))]
set_option maxRecDepth 100000 in
theorem turn_calls (Γ : Nat → Option (List AV)) (a b x : Int) (h : AH) (i j : Nat) (hi : h[i]? = some (.row [.int .i64 a] 3)) (hj : h[j]? = some (.row [.int .i64 b] 3)) :
    ACalls Try.prog Γ 41 [.int .i64 x, .ptr (some (i, 0)), .ptr (some (j, 0))] h fun v h' => h' = h ∧ v = .int .i64 (swF a b x) := by
  have hi' := hget_of hi
  have hj' := hget_of hj
  refine ACalls.drop ?_
  refine acalls_code (rs := [.tmp 4]) Try.func41 rfl rfl rfl rfl Ty.mixed (by kernel_rfl) ?_
  simp (disch := omega) only [go_sem, seval, hi]
  refine aIf.intro (fun h1 => ?_) (fun h1 => ?_)
  · simp (disch := omega) only [go_sem, seval, hj]
    simp [swF, h1]
  · simp (disch := omega) only [go_sem, seval, hj]
    refine aIf.intro (fun h2 => ?_) (fun h2 => ?_)
    · simp (disch := omega) only [go_sem, seval, hi]
      rw [swF, if_neg h1, if_pos h2]
    · simp (disch := omega) only [go_sem, seval]
      simp [swF, h1, h2]
theorem rowsOK_gates (l : List Gt) : RowsOK 3 (l.map encG) := RowsOK.map (f := encG) (fun g => by
  cases g with | mk p n l => exact ⟨by simp [encG_mk, AV.cells], fun c hc => by simp [encG_mk, AV.cells] at hc; rcases hc with rfl | rfl | rfl <;> rfl⟩) l
theorem len_gates (l : List Gt) : (l.length : Int) ≤ allLeavesL l := by
  induction l with
  | nil => simp [allLeavesL]
  | cons x r ih => have := allLeaves_pos x; simp only [allLeavesL, List.length_cons]; omega
theorem leaves_mid (d r : List Gt) (x : Gt) : allLeaves x ≤ allLeavesL (d ++ x :: r) := by
  have e : ∀ a b : List Gt, allLeavesL (a ++ b) = allLeavesL a + allLeavesL b := fun a b => by
    induction a with
    | nil => simp [allLeavesL]
    | cons y a ih => simp only [List.cons_append, allLeavesL, ih]; omega
  have e1 := e d (x :: r)
  rw [allLeavesL] at e1
  have e4 := allLeavesL_pos r
  have e5 := allLeavesL_pos d
  omega
structure MvS where
  don : List Gt
  own : Abs.Own
  j : AH
set_option maxRecDepth 100000 in
theorem mov_calls_k (Γ : Nat → Option (List AV)) (a b : Int) : ∀ (k : Nat) (g : Gt) (h : AH) (i j c d : Nat), SizeOf.sizeOf g < k → Sh g → allLeaves g ≤ 1000 → h[i]? = some (.row [.int .i64 a] 3) → h[j]? = some (.row [.int .i64 b] 3) → h[c]? = some (.row [turnV i j] 49) → h[d]? = some (.row [movV c d] 50) →
    ACalls Try.prog Γ 42 [encG g, .ptr (some (c, 0)), .ptr (some (d, 0))] h fun v h' => h' = h ∧ v = encG (movF a b g)
  | 0, _, _, _, _, _, _, hk, _, _, _, _, _, _ => absurd hk (Nat.not_lt_zero _)
  | k + 1, .mk p n l, h, i, j, c, d, hsz, hs, hb, hi, hj, hc, hd => by
    have hbl : allLeavesL l ≤ 1000 := by
      rw [allLeaves] at hb
      split at hb
      · rename_i he
        cases l with
        | nil => simp [allLeavesL]
        | cons x r => simp at he
      · exact hb
    have hlg := len_gates l
    have hl1 := hs.len
    have hl2 := hs.mem
    have hc' := hget_of hc
    have hd' := hget_of hd
    have hi' := hget_of hi
    have hj' := hget_of hj
    refine ACalls.dropL ?_
    refine acalls_code (rs := [.cell 4 24]) Try.func42 rfl rfl rfl rfl Ty.mixed (by kernel_rfl) ?_
    simp only [encG_mk]
    simp (disch := omega) only [go_sem, seval]
    obtain ⟨p2, hp2⟩ : ∃ p2, p2 = (if 0 ≤ p then swF a b p else p) := ⟨_, rfl⟩
    refine aIf.intro (fun h1 => ?_) (fun h1 => ?_)
    focus
      have ht := turn_calls Γ a b p (h ++ [.row [.int .i64 p, .int .i64 n, .sl (l.map encG) .free] 24, .row [.int .i64 0, .int .i64 0, .sl [] .full] 24, .row [.int .i64 p, .int .i64 n, .sl (l.map encG) .free] 24]) i j (by rw [hget_in _ hi']; exact hi) (by rw [hget_in _ hj']; exact hj)
      rw [if_pos h1] at hp2
      rw [← hp2] at ht
      simp (disch := omega) only [go_sem, seval, hget_in _ hc', hc, turnV]
      refine ACalls.det ht ?_
      simp (disch := omega) only [go_sem, seval]
    rotate_left
    focus
      rw [if_neg h1] at hp2
      simp (disch := omega) only [go_sem, seval]
    all_goals
      obtain ⟨K, hK⟩ : ∃ K : AV → AH, ∀ v, K v = h ++ [.row [.int .i64 p, .int .i64 n, .sl (l.map encG) .free] 24, .row [.int .i64 0, .int .i64 0, .sl [] .full] 24, .row [.int .i64 p2, .int .i64 n, v] 24] := ⟨_, fun _ => rfl⟩
      have Kl : ∀ v, (K v).length = h.length + 3 := fun v => by rw [hK]; simp
      have KD : ∀ v j r, ∃ l, (K v ++ j).set (h.length + 1) r = h ++ l := fun v j r => by rw [hK, List.append_assoc, hset_add]; exact ⟨_, rfl⟩
      have K1 : ∀ v j, (K v ++ j)[h.length + 1]? = some (.row [.int .i64 0, .int .i64 0, .sl [] .full] 24) := fun v j => by rw [hK]; simp
      have K2 : ∀ v j, (K v ++ j)[h.length + 2]? = some (.row [.int .i64 p2, .int .i64 n, v] 24) := fun v j => by rw [hK]; simp
      have S2 : ∀ v j v', (K v ++ j).set (h.length + 2) (.row [.int .i64 p2, .int .i64 n, v'] 24) = K v' ++ j := fun v j v' => by rw [hK, hK]; simp
      have Kh : ∀ v j q o, h[q]? = some o → (K v ++ j)[q]? = some o := fun v j q o e => by rw [hK, List.append_assoc, hget_in _ (hget_of e)]; exact e
      have Kj : ∀ v (j : AH) r X, (K v ++ (j ++ r :: X))[h.length + 3 + j.length]? = some r := by intro v j r X; rw [← Kl v, hget_add]; simp
      have Sj : ∀ v (j : AH) r X r', (K v ++ (j ++ r :: X)).set (h.length + 3 + j.length) r' = K v ++ (j ++ r' :: X) := by intro v j r X r'; rw [← Kl v, hset_add]; simp
      refine awp_loopL (β := MvS) l [1, 2, 4, 5, 19, 20, 21] (fun don _ => [(1, .ptr (some (c, 0))), (2, .ptr (some (d, 0))), (4, .ptr (some (h.length + 1, 0))), (5, .ptr (some (h.length + 2, 0))), (19, .sl (l.map encG) .free), (20, .int .i64 l.length), (21, .int .i64 don.length)])
        (fun s => K (.sl ((s.don.map (movF a b)).map encG) s.own) ++ s.j) (fun don _ s => s.don = don ∧ OwnAt (K (.sl ((s.don.map (movF a b)).map encG) s.own)) s.j s.don.length s.own) ⟨[], .full, []⟩ ?_ (by simp [hK, hp2]) ⟨rfl, trivial⟩ Ty.mixed (by kernel_rfl) ?_ ?_
      · simp (disch := omega) only [go_sem, seval, List.length_map]
      · rintro don x r ⟨_, own, j2⟩ hdx ⟨rfl, ho⟩
        simp only at ho ⊢
        rename_i don
        have hlen : l.length = don.length + (r.length + 1) := by rw [hdx]; simp
        have e1 : (l.map encG)[don.length]? = some (encG x) := by rw [hdx]; simp
        have cm := fun h' k1 k2 k3 k4 => mov_calls_k Γ a b k x h' i j c d (mem_sz (by rw [hdx]; simp) hsz) (hl2 x (by rw [hdx]; simp)) (by have := leaves_mid don r x; rw [← hdx] at this; omega) k1 k2 k3 k4
        obtain ⟨xp, xn, xl⟩ := x
        simp only [encG_mk] at e1 cm
        simp (disch := omega) only [go_sem, seval]
        rw [hlen]
        refine aIf.pos (by omega) ?_
        simp (disch := omega) only [go_sem, seval, e1, K2, S2, Kl, Kj, Sj, Kh _ _ _ _ hc, Kh _ _ _ _ hd]
        simp (disch := omega) only [go_sem, seval, movV]
        refine aCallF.intro (fun X => by
          rw [List.append_assoc]
          exact cm _ (Kh _ _ _ _ hi) (Kh _ _ _ _ hj) (Kh _ _ _ _ hc) (Kh _ _ _ _ hd)) ?_
        simp (disch := omega) only [go_sem, seval, K2, S2, List.append_assoc]
        refine aAp_sl (xs := [encG (movF a b (.mk xp xn xl))]) (by simpa using ho.app _) (rowsOK_gates _) (rowsOK_gates [movF a b (.mk xp xn xl)]) (by simp; omega) (by simp; omega) fun j3 own3 ho3 hg => ?_
        simp (disch := omega) only [go_sem, seval, K2, S2]
        refine roundL_next ⟨don ++ [.mk xp xn xl], own3, j3⟩ ⟨rfl, ?_⟩ ?_ ?_
        · simp only
          simp only [List.length_map] at ho3
          cases own3 with
          | full => trivial
          | free => exact ho3.elim
          | arena q => obtain ⟨i', h1, h2⟩ := ho3; exact ⟨i', by rw [h1, Kl, Kl], by simpa using h2⟩
        · simp (disch := omega) only [go_sem, seval, List.length_append]
        · simp
      · rintro ⟨_, own, j2⟩ ⟨rfl, ho⟩
        simp only at ho ⊢
        rename_i don
        have G0 : ∀ v j r, ((K v ++ j).set (h.length + 1) r)[h.length + 1]? = some r := fun v j r => by rw [List.getElem?_set_self]; rw [List.length_append, Kl]; omega
        simp (disch := omega) only [go_sem, seval, List.length_map]
        refine AWP.keep [4, 5] (aCode_ok Ty.mixed _ _ _ _ (by kernel_rfl) ?_)
        simp (disch := omega) only [go_sem, seval, K1, K2, G0]
        refine ⟨KD _ _ _, ?_⟩
        rw [movF, movL_map, encG_mk]
        simp [hp2, h1]
theorem mov_calls (Γ : Nat → Option (List AV)) (a b : Int) (g : Gt) (h : AH) (i j c d : Nat) (hs : Sh g) (hb : allLeaves g ≤ 1000) (hi : h[i]? = some (.row [.int .i64 a] 3)) (hj : h[j]? = some (.row [.int .i64 b] 3)) (hc : h[c]? = some (.row [turnV i j] 49)) (hd : h[d]? = some (.row [movV c d] 50)) :
    ACalls Try.prog Γ 42 [encG g, .ptr (some (c, 0)), .ptr (some (d, 0))] h fun v h' => h' = h ∧ v = encG (movF a b g) :=
  mov_calls_k Γ a b _ g h i j c d (Nat.lt_succ_self _) hs hb hi hj hc hd
/-! ### A set whose people are exchanged, number by number -/
def chkE (a b : Int) (s : List Int) (n : Nat) : List Int := (s.filter fun x => decide (swF a b x = (n : Int))).map fun _ => (n : Int)
def wantF (a b : Int) (s : List Int) (N : Nat) : List Int := (List.range N).flatMap (chkE a b s)
theorem want_succ (a b : Int) (s : List Int) (n : Nat) : wantF a b s (n + 1) = wantF a b s n ++ chkE a b s n := by
  rw [wantF, List.range_succ, List.flatMap_append, wantF]; simp
theorem mem_chkE (a b : Int) (s : List Int) (n : Nat) (x : Int) : x ∈ chkE a b s n ↔ x = n ∧ swF a b x ∈ s := by
  rw [chkE, List.mem_map]
  constructor
  · rintro ⟨y, h1, rfl⟩
    rw [List.mem_filter, decide_eq_true_eq] at h1
    refine ⟨rfl, ?_⟩
    rw [← h1.2, sw_sw]; exact h1.1
  · rintro ⟨rfl, h⟩
    exact ⟨_, List.mem_filter.2 ⟨h, by simp [sw_sw]⟩, rfl⟩
theorem chkE_len (a b : Int) {s : List Int} (h : s.Nodup) (n : Nat) : (chkE a b s n).length ≤ 1 := by
  rw [chkE, List.length_map]
  induction s with
  | nil => simp
  | cons x r ih =>
    rw [List.nodup_cons] at h
    rw [List.filter_cons]
    split
    · rename_i hx
      have : r.filter (fun y => decide (swF a b y = (n : Int))) = [] := by
        rw [List.filter_eq_nil_iff]
        intro y hy he
        simp only [decide_eq_true_eq] at hx he
        exact h.1 (sw_inj (hx.trans he.symm) ▸ hy)
      rw [this]; simp
    · exact ih h.2
theorem want_pw (a b : Int) {s : List Int} (h : s.Nodup) : ∀ N, (wantF a b s N).Pairwise (· < ·) ∧ ∀ x ∈ wantF a b s N, x < N
  | 0 => by simp [wantF]
  | N + 1 => by
    obtain ⟨h1, h2⟩ := want_pw a b h N
    have h3 := chkE_len a b h N
    rw [want_succ]
    refine ⟨List.pairwise_append.2 ⟨h1, ?_, fun x hx y hy => ?_⟩, fun x hx => ?_⟩
    · cases hc : chkE a b s N with
      | nil => exact .nil
      | cons y r => rw [hc] at h3; cases r with
        | nil => simp
        | cons z r => simp at h3
    · have := h2 x hx
      rw [((mem_chkE a b s N y).1 hy).1]; exact this
    · rcases List.mem_append.1 hx with hx | hx
      · have := h2 x hx; omega
      · have := ((mem_chkE a b s N x).1 hx).1; omega
theorem mem_want (a b : Int) (s : List Int) (N : Nat) (x : Int) : x ∈ wantF a b s N ↔ (0 ≤ x ∧ x < N) ∧ swF a b x ∈ s := by
  rw [wantF, List.mem_flatMap]
  constructor
  · rintro ⟨n, h1, h2⟩
    rw [List.mem_range] at h1
    obtain ⟨rfl, h3⟩ := (mem_chkE a b s n x).1 h2
    exact ⟨by omega, h3⟩
  · rintro ⟨h1, h2⟩
    exact ⟨x.toNat, by rw [List.mem_range]; omega, (mem_chkE a b s _ x).2 ⟨by omega, h2⟩⟩
theorem want_ex {a b : Int} (h : Sw a b) {s : List Int} (hs : ascF (-1) s = true) : wantF a b s 64 = exF a b s := by
  have hp := asc_pw hs
  have hb := ((ascF_iff s _).1 hs).2
  refine lt_eq (want_pw a b (pw_nodup hp) 64).1 (ex_lt (pw_nodup hp)) fun x => ?_
  rw [mem_want, mem_ex]
  refine ⟨fun k => k.2, fun k => ⟨?_, k⟩⟩
  have := hb _ k
  have h1 := sw_pos h (swF a b x)
  rw [sw_sw] at h1
  constructor
  · exact h1.1.2 (by omega)
  · exact h1.2.2 this.2
theorem want_len {a b : Int} {s : List Int} (h : s.Nodup) : ∀ N, (wantF a b s N).length ≤ N
  | 0 => by simp [wantF]
  | N + 1 => by rw [want_succ, List.length_append]; have := want_len (a := a) (b := b) h N; have := chkE_len a b h N; omega
theorem sh_mov_k {a b : Int} (w : Sw a b) : ∀ (k : Nat) (g : Gt), SizeOf.sizeOf g < k → Sh g → Sh (movF a b g)
  | 0, _, hk, _ => absurd hk (Nat.not_lt_zero _)
  | k + 1, .mk p n l, hsz, hs => by
    rw [movF, movL_map]
    have hm : ∀ x ∈ l.map (movF a b), Sh x := fun x hx => by
      obtain ⟨y, hy, rfl⟩ := List.mem_map.1 hx
      exact sh_mov_k w k y (mem_sz hy hsz) (hs.mem y hy)
    cases hs with
    | mk h1 h2 h3 h4 h5 h6 =>
      have ha := w.a
      have hb := w.b
      refine .mk (by simpa using h1) hm ?_ ?_ h5 h6
      · unfold swF; split <;> (try split) <;> (try split) <;> omega
      · unfold swF; split <;> (try split) <;> (try split) <;> omega
theorem chkE_snoc (a b : Int) (d : List Int) (x : Int) (n : Nat) : chkE a b (d ++ [x]) n = chkE a b d n ++ (if swF a b x = n then [(n : Int)] else []) := by
  simp only [chkE, List.filter_append, List.map_append, List.filter_cons, List.filter_nil, decide_eq_true_eq]
  congr 1
  split <;> rfl
structure WnS where
  l : List Int
  own : Abs.Own
  j : AH
set_option maxRecDepth 100000 in
theorem minExchanged_calls (Γ : Nat → Option (List AV)) (g : Gt) (p q : Nat) (h : AH) (hs : Sh g) (hp : p < 256) (hq : q < 256) :
    ACalls Try.prog Γ 11 [encG g, .int .u8 p, .int .u8 q] h fun v h' => h' = h ∧ v = .bool true := by
  have c1 := fun h => lists_calls Γ g h hs
  rw [listsV] at c1
  have hG : ∃ gp n gl, g = .mk gp n gl := by cases g with | mk p n gl => exact ⟨p, n, gl, rfl⟩
  obtain ⟨gp, n, gl, hG⟩ := hG
  have eG : encG g = .agg [.int .i64 gp, .int .i64 n, .sl (gl.map encG) .free] := by rw [hG, encG_mk]
  rw [eG] at c1 ⊢
  cases hu : useF g with
  | false =>
    rw [hu] at c1
    simp only [Bool.false_eq_true, if_false] at c1
    refine ACalls.drop ?_
    refine acalls_code (rs := [.tmp 6]) Try.func11 rfl rfl rfl rfl Ty.mixed (by kernel_rfl) ?_
    simp (disch := omega) only [go_sem, seval]
    refine ACalls.det (sane24_calls Γ _) ?_
    simp (disch := omega) only [go_sem, seval]
    refine ACalls.det (c1 _) ?_
    simp (disch := omega) only [go_sem, seval]
  | true =>
    have hok := use_ok hu
    rw [hu, if_pos rfl] at c1
    have hP := hok.p
    have hck := hok.c
    have hpn := hok.n
    obtain ⟨a, ha⟩ : ∃ a : Int, a = ((p % 64 : Nat) : Int) := ⟨_, rfl⟩
    obtain ⟨b, hb⟩ : ∃ b : Int, b = ((q % 64 : Nat) : Int) := ⟨_, rfl⟩
    have sw : Sw a b := ⟨by omega, by omega⟩
    have hra : ((p : Int).tmod 64) = a := by rw [ha, Int.tmod_eq_emod_of_nonneg (by omega)]; omega
    have hrb : ((q : Int).tmod 64) = b := by rw [hb, Int.tmod_eq_emod_of_nonneg (by omega)]; omega
    have hmu := mov_use sw hu
    have hmk := use_ok hmu
    obtain ⟨XS, hXS⟩ : ∃ XS : Bool → List (List Int), ∀ k, XS k = minsF (pplF g) (fineF g k) := ⟨_, fun _ => rfl⟩
    obtain ⟨YS, hYS⟩ : ∃ YS : Bool → List (List Int), ∀ k, YS k = minsF (pplF (movF a b g)) (fineF (movF a b g) k) := ⟨_, fun _ => rfl⟩
    have hX0 : setsF g = XS false := by rw [hXS]; rfl
    have hX1 : blksF g = XS true := by rw [hXS]; rfl
    have hY0 : setsF (movF a b g) = YS false := by rw [hYS]; rfl
    have hY1 : blksF (movF a b g) = YS true := by rw [hYS]; rfl
    have hXl : ∀ k, (XS k).length ≤ 256 := fun k => by cases k; · rw [← hX0]; exact hok.s
                                                       · rw [← hX1]; exact hok.b
    have hms := fun k => mov_sets sw hck k
    have hYe : ∀ k, ∀ s ∈ XS k, exF a b s ∈ YS k := fun k s hs => by rw [hYS]; rw [hXS] at hs; exact (hms k).1 s hs
    have hYl : ∀ k, (YS k).length = (XS k).length := fun k => by rw [hYS, hXS]; exact (hms k).2
    have hYi : ∀ k, ∀ s ∈ YS k, s.length ≤ 12 := fun k s hs => by
      rw [hYS] at hs
      have := ((mem_mins hmk.p s).1 hs).1.length_le
      have := hmk.n
      omega
    have hXi : ∀ k, ∀ s ∈ XS k, s.length ≤ 12 ∧ ascF (-1) s = true := fun k s hs => by
      rw [hXS] at hs
      have h1 := ((mem_mins hP s).1 hs).1
      exact ⟨by have := h1.length_le; omega, sub_asc hck h1⟩
    rw [hX0, hX1] at c1
    have c2 := fun h i j c d k1 k2 k3 k4 => mov_calls Γ a b g h i j c d hs (by have := hok.lv; omega) k1 k2 k3 k4
    have hmG : ∃ p n l, movF a b g = .mk p n l := by rw [hG, movF]; exact ⟨_, _, _, rfl⟩
    obtain ⟨mp, mn, ml, hmG⟩ := hmG
    have shm : Sh (movF a b g) := sh_mov_k sw _ g (Nat.lt_succ_self _) hs
    have c3 := fun h => lists_calls Γ (movF a b g) h shm
    rw [listsV, hmu, if_pos rfl, hY0, hY1] at c3
    have eM : encG (movF a b g) = .agg [.int .i64 mp, .int .i64 mn, .sl (ml.map encG) .free] := by rw [hmG, encG_mk]
    rw [eM] at c2 c3
    rw [eG] at c2
    refine ACalls.drop ?_
    refine acalls_code (rs := [.tmp 6]) Try.func11 rfl rfl rfl rfl Ty.mixed (by kernel_rfl) ?_
    simp (disch := omega) only [go_sem, seval]
    refine ACalls.det (sane24_calls Γ _) ?_
    simp (disch := omega) only [go_sem, seval]
    refine ACalls.det (c1 _) ?_
    simp (disch := omega) only [go_sem, seval, hra, hrb]
    refine ACalls.det (c2 _ (h.length + 1) (h.length + 2) (h.length + 3) (h.length + 4) (by simp (disch := omega) only [go_sem, seval]) (by simp (disch := omega) only [go_sem, seval]) (by simp (disch := omega) only [go_sem, seval]; rfl) (by simp (disch := omega) only [go_sem, seval]; rfl)) ?_
    simp (disch := omega) only [go_sem, seval]
    refine ACalls.det (c3 _) ?_
    simp (disch := omega) only [go_sem, seval, encII_len, hYl]
    obtain ⟨H, hH⟩ : ∃ H : AH, H = h ++ [.row [.int .i64 gp, .int .i64 n, .sl (gl.map encG) .free] 24, .row [.int .i64 a] 3, .row [.int .i64 b] 3, .row [turnV (h.length + 1) (h.length + 2)] 49, .row [movV (h.length + 3) (h.length + 4)] 50, .row [.int .i64 mp, .int .i64 mn, .sl (ml.map encG) .free] 24] := ⟨_, rfl⟩
    have HD : ∀ j : AH, ∃ l, H ++ j = h ++ l := fun j => by rw [hH]; exact ⟨_, List.append_assoc ..⟩
    have H1 : ∀ j : AH, (H ++ j)[h.length + 1]? = some (.row [.int .i64 a] 3) := fun j => by rw [hH]; simp
    have H2 : ∀ j : AH, (H ++ j)[h.length + 2]? = some (.row [.int .i64 b] 3) := fun j => by rw [hH]; simp
    have H3 : ∀ j : AH, (H ++ j)[h.length + 3]? = some (.row [.func 41 [] [.ptr (some (h.length + 1, 0)), .ptr (some (h.length + 2, 0))]] 49) := fun j => by rw [hH]; simp [turnV]
    have ct := fun (x : Int) (j : AH) => turn_calls Γ a b x (H ++ j) (h.length + 1) (h.length + 2) (H1 j) (H2 j)
    refine awp_loopL (β := AH) [false, true] [13, 16, 17, 88, 89, 90] (fun don _ => [(13, .ptr (some (h.length + 3, 0))), (16, .sl (encII (YS false)) .free), (17, .sl (encII (YS true)) .free), (88, .sl [.sl (encII (XS false)) .free, .sl (encII (XS true)) .free] .full), (89, .int .i64 2), (90, .int .i64 don.length)])
      (fun j => H ++ j) (fun _ _ _ => True) [] ?_ (by rw [hH, List.append_nil]; rfl) trivial Ty.mixed (by kernel_rfl) ?_ ?_
    · simp (disch := omega) only [go_sem, seval]
    · rintro don k r j hd _
      have hdb : don.length = (if k then 1 else 0) ∧ don.length + 1 + r.length = 2 := by
        have hl := congrArg List.length hd
        simp at hl
        refine ⟨?_, by omega⟩
        rcases don with _ | ⟨x, _ | ⟨y, don⟩⟩
        · simp at hd; simp [← hd.1]
        · simp at hd; simp [← hd.2.1]
        · simp at hl; omega
      have e1 : [AV.sl (encII (XS false)) .free, .sl (encII (XS true)) .free][don.length]? = some (.sl (encII (XS k)) .free) := by rw [hdb.1]; cases k <;> rfl
      have e2 : [AV.sl (encII (YS false)) .free, .sl (encII (YS true)) .free][don.length]? = some (.sl (encII (YS k)) .free) := by rw [hdb.1]; cases k <;> rfl
      have hxl := hXl k
      have hyl := hYl k
      simp (disch := omega) only [go_sem, seval]
      refine aIf.pos (by omega) ?_
      simp (disch := omega) only [go_sem, seval, e1, e2, encII_len]
      refine awp_loopL (β := AH) (XS k) [13, 16, 17, 22, 88, 89, 90, 101, 102, 103] (fun don2 _ => [(13, .ptr (some (h.length + 3, 0))), (16, .sl (encII (YS false)) .free), (17, .sl (encII (YS true)) .free), (22, .sl (encII (YS k)) .free), (88, .sl [.sl (encII (XS false)) .free, .sl (encII (XS true)) .free] .full), (89, .int .i64 2), (90, .int .i64 don.length), (101, .sl (encII (XS k)) .free), (102, .int .i64 (XS k).length), (103, .int .i64 don2.length)])
        (fun j => H ++ j) (fun _ _ _ => True) j ?_ rfl trivial Ty.mixed (by kernel_rfl) ?_ ?_
      · simp (disch := omega) only [go_sem, seval]
      · clear j
        rintro don2 s r2 j hd2 _
        have hlen2 : (XS k).length = don2.length + (r2.length + 1) := by rw [hd2]; simp
        have e3 : (encII (XS k))[don2.length]? = some (.sl (encI s) .free) := by rw [hd2]; exact encII_get don2 r2 s
        have hsm : s ∈ XS k := by rw [hd2]; simp
        obtain ⟨hsl, hsa⟩ := hXi k s hsm
        have hnd := pw_nodup (asc_pw hsa)
        simp (disch := omega) only [go_sem, seval]
        refine aIf.pos (by omega) ?_
        simp (disch := omega) only [go_sem, seval, e3]
        refine awp_loopS (α := Nat × WnS) [13, 16, 17, 22, 88, 89, 90, 101, 102, 103, 24, 25, 107] (fun s1 => [(13, .ptr (some (h.length + 3, 0))), (16, .sl (encII (YS false)) .free), (17, .sl (encII (YS true)) .free), (22, .sl (encII (YS k)) .free), (88, .sl [.sl (encII (XS false)) .free, .sl (encII (XS true)) .free] .full), (89, .int .i64 2), (90, .int .i64 don.length), (101, .sl (encII (XS k)) .free), (102, .int .i64 (XS k).length), (103, .int .i64 don2.length), (24, .sl (encI s) .free), (25, .sl (encI s1.2.l) s1.2.own), (107, .int .i64 s1.1)])
          (fun s1 => H ++ s1.2.j) (fun s1 => s1.1 ≤ 64 ∧ s1.2.l = wantF a b s s1.1 ∧ OwnAt H s1.2.j s1.2.l.length s1.2.own) (fun s1 => 64 - s1.1) (0, ⟨[], .full, j⟩) ?_ rfl ⟨by simp, rfl, trivial⟩ Ty.mixed (by kernel_rfl) ?_
        · simp (disch := omega) only [go_sem, seval]
          rfl
        clear j
        rintro ⟨N, l, own, j⟩ ⟨hN, hl, ho⟩
        simp only at hN hl ho ⊢
        have hwl := want_len (a := a) (b := b) hnd N
        simp (disch := omega) only [go_sem, seval]
        refine aIf.intro (fun hN2 => ?_) (fun hN2 => ?_)
        · simp (disch := omega) only [go_sem, seval, encI_len]
          refine awp_loopL (β := WnS) s [13, 16, 17, 22, 88, 89, 90, 101, 102, 103, 24, 25, 26, 107, 110, 111, 112] (fun d s1 => [(13, .ptr (some (h.length + 3, 0))), (16, .sl (encII (YS false)) .free), (17, .sl (encII (YS true)) .free), (22, .sl (encII (YS k)) .free), (88, .sl [.sl (encII (XS false)) .free, .sl (encII (XS true)) .free] .full), (89, .int .i64 2), (90, .int .i64 don.length), (101, .sl (encII (XS k)) .free), (102, .int .i64 (XS k).length), (103, .int .i64 don2.length), (24, .sl (encI s) .free), (25, .sl (encI s1.l) s1.own), (26, .int .i64 N), (107, .int .i64 N), (110, .sl (encI s) .free), (111, .int .i64 s.length), (112, .int .i64 d.length)])
            (fun s1 => H ++ s1.j) (fun d _ s1 => s1.l = wantF a b s N ++ chkE a b d N ∧ OwnAt H s1.j s1.l.length s1.own) ⟨l, own, j⟩ ?_ rfl ⟨by rw [hl]; simp [chkE], ho⟩ Ty.mixed (by kernel_rfl) ?_ ?_
          · simp (disch := omega) only [go_sem, seval]
          · clear hl ho
            rintro d x r3 ⟨l, own, j⟩ hd3 ⟨hl, ho⟩
            simp only at hl ho ⊢
            have hlen3 : s.length = d.length + (r3.length + 1) := by rw [hd3]; simp
            have e4 : (encI s)[d.length]? = some (.int .i64 x) := by rw [hd3]; simp [encI]
            have hcl : (chkE a b d N).length ≤ d.length := by rw [chkE, List.length_map]; exact List.length_filter_le _ _
            have hll : l.length ≤ 64 + 12 := by rw [hl, List.length_append]; omega
            have hsn := chkE_snoc a b d x N
            simp (disch := omega) only [go_sem, seval]
            refine aIf.pos (by omega) ?_
            simp (disch := omega) only [go_sem, seval, e4, H3]
            refine ACalls.det (ct x j) ?_
            simp (disch := omega) only [go_sem, seval]
            refine aIf.intro (fun hx => ?_) (fun hx => ?_)
            · rw [if_pos hx] at hsn
              simp (disch := omega) only [go_sem, seval]
              refine aAp_sl (by rw [encI_len]; exact ho) (rowsOK_I _) (rowsOK_I [(N : Int)]) (by simp [encI_len]; omega) (by simp [encI_len]; omega) fun j3 own3 ho3 hg => ?_
              rw [encI_snoc]
              simp (disch := omega) only [go_sem, seval]
              refine roundL_next ⟨l ++ [(N : Int)], own3, j3⟩ ⟨by rw [hsn, hl, List.append_assoc], ?_⟩ ?_ rfl
              · simpa [encI_len] using ho3
              · simp (disch := omega) only [go_sem, seval, List.length_append]
            · rw [if_neg hx, List.append_nil] at hsn
              simp (disch := omega) only [go_sem, seval]
              refine roundL_next ⟨l, own, j⟩ ⟨by rw [hsn]; exact hl, ho⟩ ?_ rfl
              simp (disch := omega) only [go_sem, seval, List.length_append]
          · clear hl ho
            rintro ⟨l, own, j⟩ ⟨hl, ho⟩
            simp only at hl ho ⊢
            simp (disch := omega) only [go_sem, seval]
            refine AWP.keep [13, 16, 17, 22, 24, 25, 88, 89, 90, 101, 102, 103, 107] (aCode_ok Ty.mixed _ _ _ _ (by kernel_rfl) ?_)
            simp (disch := omega) only [go_sem, seval]
            refine roundS_next (N + 1, ⟨l, own, j⟩) (by simp only; omega) ⟨by simp only; omega, by rw [want_succ]; exact hl, ho⟩ ?_ rfl
            simp (disch := omega) only [go_sem, seval]
        · have hN3 : N = 64 := by omega
          subst hN3
          rw [want_ex sw hsa] at hl
          have hey := hYe k s hsm
          have hel : (exF a b s).length ≤ 12 := by rw [ex_len]; exact hsl
          simp (disch := omega) only [go_sem, seval]
          refine AWP.keep [13, 16, 17, 22, 24, 25, 88, 89, 90, 101, 102, 103] (aCode_ok Ty.mixed _ _ _ _ (by kernel_rfl) ?_)
          simp (disch := omega) only [go_sem, seval, encII_len]
          subst hl
          refine awp_loopL (β := Bool) (YS k) [13, 16, 17, 22, 88, 89, 90, 101, 102, 103, 25, 29, 127, 128, 129] (fun d fd => [(13, .ptr (some (h.length + 3, 0))), (16, .sl (encII (YS false)) .free), (17, .sl (encII (YS true)) .free), (22, .sl (encII (YS k)) .free), (88, .sl [.sl (encII (XS false)) .free, .sl (encII (XS true)) .free] .full), (89, .int .i64 2), (90, .int .i64 don.length), (101, .sl (encII (XS k)) .free), (102, .int .i64 (XS k).length), (103, .int .i64 don2.length), (25, .sl (encI (exF a b s)) own), (29, .bool fd), (127, .sl (encII (YS k)) .free), (128, .int .i64 (YS k).length), (129, .int .i64 d.length)])
            (fun _ => H ++ j) (fun _ rest fd => (fd || rest.any fun y => decide (y = exF a b s)) = true) false ?_ rfl (by
              rw [Bool.false_or, List.any_eq_true]
              exact ⟨_, hey, by simp⟩) Ty.mixed (by kernel_rfl) ?_ ?_
          · simp (disch := omega) only [go_sem, seval]
          · rintro d y r3 fd hd3 hfd
            have hlen3 : (YS k).length = d.length + (r3.length + 1) := by rw [hd3]; simp
            have e4 : (encII (YS k))[d.length]? = some (.sl (encI y) .free) := by rw [hd3]; exact encII_get d r3 y
            have hyl3 := hYi k y (by rw [hd3]; simp)
            have k1 := fun h => sameI_calls Γ y (exF a b s) h (by omega)
            rw [List.any_cons] at hfd
            simp (disch := omega) only [go_sem, seval]
            refine aIf.pos (by omega) ?_
            simp (disch := omega) only [go_sem, seval, e4]
            cases fd with
            | true =>
              simp (disch := omega) only [go_sem, seval]
              refine roundL_next true rfl ?_ rfl
              simp (disch := omega) only [go_sem, seval, List.length_append]
            | false =>
              simp (disch := omega) only [go_sem, seval]
              refine ACalls.det (ACalls.ofLoose (k1 _) (by simp (disch := omega) only [go_sem, seval, looseL, loose, loose_I])) ?_
              simp (disch := omega) only [go_sem, seval]
              refine roundL_next (decide (y = exF a b s)) (by rwa [Bool.false_or] at hfd) ?_ rfl
              simp (disch := omega) only [go_sem, seval, List.length_append]
          · intro fd hfd
            rw [List.any_nil, Bool.or_false] at hfd
            subst hfd
            simp (disch := omega) only [go_sem, seval]
            refine AWP.keep [13, 16, 17, 22, 29, 88, 89, 90, 101, 102, 103] (aCode_ok Ty.mixed _ _ _ _ (by kernel_rfl) ?_)
            simp (disch := omega) only [go_sem, seval]
            refine AWP.keep [13, 16, 17, 22, 88, 89, 90, 101, 102, 103] (aCode_ok Ty.mixed _ _ _ _ (by kernel_rfl) ?_)
            simp (disch := omega) only [go_sem, seval]
            refine roundL_next j trivial ?_ rfl
            simp (disch := omega) only [go_sem, seval, List.length_append]
      · intro j _
        simp (disch := omega) only [go_sem, seval]
        refine AWP.keep [13, 16, 17, 88, 89, 90] (aCode_ok Ty.mixed _ _ _ _ (by kernel_rfl) ?_)
        simp (disch := omega) only [go_sem, seval]
        refine roundL_next j trivial ?_ rfl
        simp (disch := omega) only [go_sem, seval, List.length_append]
    · intro j _
      simp (disch := omega) only [go_sem, seval]
      refine AWP.keep [] (aCode_ok Ty.mixed _ _ _ _ (by kernel_rfl) ?_)
      simp (disch := omega) only [go_sem, seval]
      exact HD _
end Go.Proofs.Ytnioapinljedmaa
