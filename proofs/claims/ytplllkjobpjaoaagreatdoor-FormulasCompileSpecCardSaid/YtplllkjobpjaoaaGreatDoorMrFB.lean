/- Texts joined: FrLawA, FrLawB, FrLawC. No conditions. -/
import Derived.Test.YtplllkjobpjaoaaGreatDoorMrFA
/- The helpers of the statements on formulas. No conditions. -/
set_option linter.unusedSimpArgs false
set_option linter.unusedVariables false
namespace Go.Proofs.YtplllkjobpjaoaaGreatDoor.Fr
open Go Go.Proofs Go.Abs

def ascF : Int → List Int → Bool
  | _, [] => true
  | last, n :: r => decide (last < n) && decide (n < 64) && ascF n r
def encI (l : List Int) : List AV := l.map fun i => .int .i64 i
def holdsR (g : Gt) (who : List Int) : Bool × Int :=
  if checkF g = 0 then (if ascF (-1) who then (holdsF (fun p => decide (p ∈ who)) g, 0) else (false, 1)) else (false, checkF g)
def encR (r : Bool × Int) : AV := .tuple [.bool r.1, .int .i64 r.2]

theorem find_new (l : List Int) (i : Nat) (n : Int) (h : ∀ m ∈ l, m < n) : aFind (.int .i64 n) (entsFrom i l) = some none := by
  rcases find_ents n l i with ⟨h1, _⟩ | ⟨_, h2⟩
  · have := h n h1; omega
  · exact h2

theorem checkF_right {g : Gt} (h : checkF g = 0) : rightF g = true := by
  unfold checkF at h
  split at h
  · omega
  · split at h
    · assumption
    · omega

theorem Holds_calls (Γ : Nat → Option (List AV)) (g : Gt) (who : List Int) (h : AH) (hs : Sh g) (hw : who.length ≤ 9223372036854775807) :
    ACalls Tryz.prog Γ 13 [encG g, .sl (encI who) .free] h fun v h' => h' = h ∧ v = encR (holdsR g who) := by
  refine ACalls.drop ?_
  refine acalls_code (rs := [.tmp 4, .tmp 5]) Tryz.func13 rfl rfl rfl rfl Ty.mixed (by kernel_rfl) ?_
  simp (disch := omega) only [go_sem, seval]
  refine ACalls.det (check_calls Γ g _ hs) ?_
  simp (disch := omega) only [go_sem, seval]
  refine aIf.intro (fun h1 => ?_) (fun h1 => ?_) <;> simp (disch := omega) only [go_sem, seval]
  rotate_left
  · simp [holdsR, h1, encR]
  have hg := checkF_right h1
  refine awp_loopL (β := Int × List Int) who [19, 18, 17, 8, 7, 2] (fun don b => [(19, .int .i64 don.length), (18, .int .i64 who.length), (17, .sl (encI who) .free), (8, .int .i64 b.1), (7, .map (some (h.length + 1))), (2, .ptr (some (h.length, 0)))])
    (fun b => h ++ [.row (encG g).cells 34, .map (entsFrom 0 b.2) b.2.length]) (fun don rest b => b.2 = don ∧ (∀ m ∈ don, m ≤ b.1) ∧ ascF (-1) who = ascF b.1 rest) (-1, []) ?_ rfl ⟨rfl, by simp, rfl⟩ Ty.mixed (by kernel_rfl) ?_ ?_
  · simp (disch := omega) only [go_sem, seval, encI, List.length_map]
  · rintro don x r ⟨b, don⟩ rfl ⟨rfl, hb, hx⟩
    have hl3 := len_mid hw
    simp only at hb hx hl3 ⊢
    simp (disch := omega) only [go_sem, seval, encI, List.map_append, List.map_cons, List.length_append]
    refine aIf.pos (by omega) ?_
    simp (disch := omega) only [go_sem, seval]
    refine aIf.intro (fun h2 => ?_) (fun h2 => ?_) <;> simp (disch := omega) only [go_sem, seval]
    · simp [holdsR, h1, hx, ascF, encR, show ¬ b < x by omega]
    refine aIf.intro (fun h3 => ?_) (fun h3 => ?_) <;> simp (disch := omega) only [go_sem, seval]
    · simp [holdsR, h1, hx, ascF, encR, show ¬ x < 64 by omega]
    have hnew := find_new don 0 x (fun m hm => by have := hb m hm; omega)
    rw [hnew]
    simp (disch := omega) only [go_sem, seval, Option.bind_some, putEnt]
    refine roundL_next (x, don ++ [x]) ⟨rfl, fun m hm => ?_, ?_⟩ ?_ ?_
    · rcases List.mem_append.1 hm with hm | hm
      · have := hb m hm; simp only; omega
      · simp at hm; simp only; omega
    · rw [hx]; simp [ascF, show b < x by omega, show x < 64 by omega]
    · simp (disch := omega) only [go_sem, seval, List.length_append, encI, List.map_append, List.map_cons]
    · simp [entsFrom_app, entsFrom]
  · rintro ⟨b, w⟩ ⟨hw', hb, hx⟩
    simp only at hw' hx
    subst hw'
    simp (disch := omega) only [go_sem, seval, encI, List.length_map]
    refine AWP.keep [7, 2] (aCode_ok Ty.mixed _ _ _ _ (by kernel_rfl) ?_)
    simp (disch := omega) only [go_sem, seval]
    refine ACalls.det (holds_calls_k Γ w w.length _ g _ (h.length + 1) (Nat.lt_succ_self _) hs hg (by simp (disch := omega) only [go_sem, seval])) ?_
    simp (disch := omega) only [go_sem, seval]
    simp [holdsR, h1, hx, ascF, encR]
end Go.Proofs.YtplllkjobpjaoaaGreatDoor.Fr

/- The helpers of the statements on formulas, second part. No conditions. -/
set_option linter.unusedSimpArgs false
set_option linter.unusedVariables false
namespace Go.Proofs.YtplllkjobpjaoaaGreatDoor.Fr
open Go Go.Proofs Go.Abs

theorem loose_G : ∀ g : Gt, loose (encG g) = encG g
  | .mk p n l => by
    have : looseL (l.map encG) = l.map encG := by
      rw [looseL_map, List.map_map]
      exact List.map_congr_left fun x hx => loose_G x
    rw [encG_mk]; simp only [loose, looseL, this]
theorem loose_Gs (l : List Gt) : looseL (l.map encG) = l.map encG := looseL_maps _ loose_G l
theorem rb_G (k : Nat) : ∀ g : Gt, RB k (encG g)
  | .mk p n l => by
    rw [encG_mk]
    refine .agg' (RBs.cons (.int _ _) (RBs.cons (.int _ _) (RBs.cons (.sl' fun r hr => ?_) (RBs.nil _))))
    obtain ⟨x, hx, rfl⟩ := List.mem_map.1 hr
    exact rb_G k x
theorem rb_Gs (k : Nat) (l : List Gt) : RB k (.sl (l.map encG) .free) = True := eq_true (.sl' fun r hr => by
  obtain ⟨x, hx, rfl⟩ := List.mem_map.1 hr
  exact rb_G k x)
theorem rb_G' (k : Nat) (g : Gt) : RB k (encG g) = True := eq_true (rb_G k g)
attribute [go_sem] loose_G loose_Gs rb_Gs rb_G'

theorem one_calls (Γ : Nat → Option (List AV)) (n : Int) (h : AH) : ACalls Tryz.prog Γ 12 [.int .i64 n] h fun v h' => h' = h ∧ v = .agg [.int .i64 n, .int .i64 0, .sl [] .full] := by
  refine ACalls.drop ?_
  refine acalls_code (rs := [.cell 2 34]) Tryz.func12 rfl rfl rfl rfl Ty.mixed (by kernel_rfl) ?_
  simp (disch := omega) only [go_sem, seval]
theorem of_calls (Γ : Nat → Option (List AV)) (n : Int) (rows : List AV) (own : Abs.Own) (h : AH) (hr : RB h.length (.sl rows own)) : ACalls Tryz.prog Γ 11 [.int .i64 n, .sl rows own] h fun v h' => h' = h ∧ v = .agg [.int .i64 (-1), .int .i64 n, .sl rows own] := by
  refine ACalls.drop ?_
  refine acalls_code (rs := [.cell 4 34]) Tryz.func11 rfl rfl rfl rfl Ty.mixed (by kernel_rfl) ?_
  simp (disch := omega) only [go_sem, seval]
  exact hr
theorem lholds_calls (Γ : Nat → Option (List AV)) (g : Gt) (b : Bool) (who : List Int) (h : AH) (hs : Sh g) (hw : who.length ≤ 9223372036854775807) :
    ACalls Tryz.prog Γ 15 [encG g, .bool b, .sl (encI who) .free] h fun v h' => h' = h ∧ v = .bool (decide ((holdsR g who).2 = 0) && decide ((holdsR g who).1 = b)) := by
  refine ACalls.drop ?_
  refine acalls_code (rs := [.tmp 6]) Tryz.func15 rfl rfl rfl rfl Ty.mixed (by kernel_rfl) ?_
  simp (disch := omega) only [go_sem, seval]
  refine ACalls.det (Holds_calls Γ g who _ hs hw) ?_
  simp (disch := omega) only [go_sem, seval, encR]
  refine aIf.intro (fun h1 => ?_) (fun h1 => ?_) <;> simp (disch := omega) only [go_sem, seval]
  · simp only [h1, decide_true, Bool.true_and]
    congr 1
  · simp [h1]

def deepV : Nat → AV
  | 0 => .agg [.int .i64 1, .int .i64 0, .sl [] .full]
  | k + 1 => .agg [.int .i64 (-1), .int .i64 1, .sl [deepV k] .full]
def deepG : Nat → Gt
  | 0 => .mk 1 0 []
  | k + 1 => .mk (-1) 1 [deepG k]
theorem loose_deep (k : Nat) : loose (deepV k) = encG (deepG k) := by
  induction k with
  | zero => simp [deepV, deepG, loose, looseL, encG, encGs]
  | succ k ih => simp [deepV, deepG, loose, looseL, encG, encGs, ih]
theorem deepV_len (k : Nat) : (deepV k).cells.length = 3 := by cases k <;> rfl
theorem deepV_take (k : Nat) : AV.agg ((deepV k).cells.take 3) = deepV k := by cases k <;> rfl
theorem deepV_good (k : Nat) : (deepV k).good = true := by cases k <;> rfl
theorem deepV_agg (k : Nat) : (deepV k).isAgg = true := by cases k <;> rfl
theorem deepV_drop (k : Nat) : (deepV k).cells.drop 3 = [] := by cases k <;> rfl
theorem deepV_splice (a b c : AV) (k : Nat) : splice [a, b, c] 0 (deepV k).cells = (deepV k).cells := by cases k <;> rfl
theorem rb_deep (n k : Nat) : RB n (deepV k) = True := by
  refine eq_true ?_
  induction k with
  | zero => exact .agg' (RBs.cons (.int _ _) (RBs.cons (.int _ _) (RBs.cons (.slFull (by simp)) (RBs.nil _))))
  | succ k ih => exact .agg' (RBs.cons (.int _ _) (RBs.cons (.int _ _) (RBs.cons (.slFull (by simpa using ih)) (RBs.nil _))))

theorem k_deep16 : checkF (deepG 16) = 2 := by decide +kernel
theorem k_deep15 : checkF (deepG 15) = 0 := by decide +kernel
theorem k_wide : checkF (.mk (-1) 1 (List.replicate 257 (.mk 3 0 []))) = 2 := by decide +kernel
theorem k_one : holdsR (.mk 1 0 []) [2, 1] = (false, 1) := by decide +kernel
theorem k_zero : checkF (.mk 0 0 []) = 0 := by decide +kernel
theorem k_of0 : checkF (.mk (-1) 0 []) = 220 := by decide +kernel
def twiceG : Gt := .mk (-1) 2 [.mk 1 0 [], .mk 1 0 [], .mk 2 0 []]
theorem k_twice : checkF twiceG = 0 := by decide +kernel
theorem k_h1 : holdsR twiceG [1] = (true, 0) := by decide +kernel
theorem k_h2 : holdsR twiceG [2] = (false, 0) := by decide +kernel
theorem k_h3 : holdsR (.mk (-1) 1 []) [0, 1, 2] = (false, 0) := by decide +kernel
theorem k_h4 : holdsR (.mk 5 0 []) [4, 5] = (true, 0) := by decide +kernel
theorem sh_leaf (p n : Int) (h1 : -1000 ≤ p) (h2 : p ≤ 1000) (h3 : -1000 ≤ n) (h4 : n ≤ 1000) : Sh (.mk p n []) := .mk (by simp) (by simp) (by omega) (by omega) (by omega) (by omega)
theorem sh_deep : ∀ k, Sh (deepG k)
  | 0 => sh_leaf 1 0 (by omega) (by omega) (by omega) (by omega)
  | k + 1 => .mk (by simp) (by simpa using sh_deep k) (by omega) (by omega) (by omega) (by omega)
theorem sh_twice : Sh twiceG := .mk (by simp) (by simp only [List.mem_cons, List.not_mem_nil, or_false]; rintro x (rfl | rfl | rfl) <;> exact sh_leaf _ _ (by omega) (by omega) (by omega) (by omega)) (by omega) (by omega) (by omega) (by omega)
theorem sh_wide : Sh (.mk (-1) 1 (List.replicate 257 (.mk 3 0 []))) := .mk (by rw [List.length_replicate]; omega) (fun x hx => by rw [List.eq_of_mem_replicate hx]; exact sh_leaf _ _ (by omega) (by omega) (by omega) (by omega)) (by omega) (by omega) (by omega) (by omega)
def oneV (n : Int) : AV := .agg [.int .i64 n, .int .i64 0, .sl [] .full]
theorem rb_leafs (n : Nat) (l : List Int) : RB n (.sl (l.map oneV) .full) := .slFull fun r hr => by
  obtain ⟨x, _, rfl⟩ := List.mem_map.1 hr
  exact .agg' (RBs.cons (.int _ _) (RBs.cons (.int _ _) (RBs.cons (.slFull (by simp)) (RBs.nil _))))

set_option maxHeartbeats 1600000 in
set_option maxRecDepth 1000000 in
theorem sane_calls (Γ : Nat → Option (List AV)) (h : AH) : ACalls Tryz.prog Γ 4 [] h fun v h' => h' = h ∧ v = .bool true := by
  refine ACalls.drop ?_
  refine acalls_code (rs := [.tmp 0]) Tryz.func4 rfl rfl rfl rfl Ty.mixed (by kernel_rfl) ?_
  simp (disch := omega) only [go_sem, seval]
  refine ACalls.det (one_calls Γ 1 _) ?_
  simp (disch := omega) only [go_sem, seval]
  refine ACalls.det (one_calls Γ 1 _) ?_
  simp (disch := omega) only [go_sem, seval]
  refine ACalls.det (one_calls Γ 2 _) ?_
  simp (disch := omega) only [go_sem, seval]
  refine ACalls.det (of_calls Γ 2 _ _ _ (rb_leafs _ [1, 1, 2])) ?_
  simp (disch := omega) only [go_sem, seval]
  refine ACalls.det (one_calls Γ 1 _) ?_
  simp (disch := omega) only [go_sem, seval]
  refine ACalls.det ((Holds_calls Γ (.mk 1 0 []) [2, 1] _ (sh_leaf _ _ (by omega) (by omega) (by omega) (by omega)) (by simp)).ofLoose rfl) ?_
  rw [k_one]
  simp (disch := omega) only [go_sem, seval, encR]
  refine ACalls.det ((check_calls Γ (.mk 0 0 []) _ (sh_leaf _ _ (by omega) (by omega) (by omega) (by omega))).ofLoose rfl) ?_
  rw [k_zero]
  simp (disch := omega) only [go_sem, seval]
  refine ACalls.det (of_calls Γ 0 _ _ _ (rb_leafs _ [])) ?_
  simp (disch := omega) only [go_sem, seval]
  refine ACalls.det ((check_calls Γ (.mk (-1) 0 []) _ (sh_leaf _ _ (by omega) (by omega) (by omega) (by omega))).ofLoose rfl) ?_
  rw [k_of0]
  simp (disch := omega) only [go_sem, seval]
  refine ACalls.det ((check_calls Γ twiceG _ sh_twice).ofLoose rfl) ?_
  rw [k_twice]
  simp (disch := omega) only [go_sem, seval]
  refine ACalls.det (one_calls Γ 1 _) ?_
  simp (disch := omega) only [go_sem, seval]
  obtain ⟨L1, hL1⟩ : ∃ L1 : List Unit, L1.length = 16 := ⟨List.replicate 16 (), List.length_replicate⟩
  obtain ⟨L2, hL2⟩ : ∃ L2 : List Unit, L2.length = 257 := ⟨List.replicate 257 (), List.length_replicate⟩
  refine awp_loopL (β := Nat) L1 [35, 4, 1] (fun don _ => [(35, .int .i64 don.length), (4, .ptr (some (h.length + 1, 0))), (1, .ptr (some (h.length, 0)))])
    (fun b => h ++ [.row [.int .i64 (-1), .int .i64 2, .sl [oneV 1, oneV 1, oneV 2] .full] 34, .row (deepV b).cells 34]) (fun don _ b => b = don.length) 0 ?_ rfl rfl Ty.mixed (by kernel_rfl) ?_ ?_
  · simp (disch := omega) only [go_sem, seval]
  · rintro don x r b hl rfl
    have hlen : don.length + 1 + r.length = 16 := by have := congrArg List.length hl; simp at this; omega
    simp (disch := omega) only [go_sem, seval]
    refine aIf.pos (by omega) ?_
    simp (disch := omega) only [go_sem, seval, deepV_len, deepV_take, deepV_good, deepV_agg, deepV_splice]
    refine ACalls.det (of_calls Γ 1 [deepV don.length] .full _ ?_) ?_
    · exact .slFull (by simpa using of_eq_true (rb_deep _ _))
    simp (disch := omega) only [go_sem, seval, deepV_len, deepV_drop]
    refine roundL_next (don.length + 1) ?_ ?_ ?_
    · rw [List.length_append]; rfl
    · simp (disch := omega) only [go_sem, seval, List.length_append]
    · rfl
  rintro b rfl
  simp (disch := omega) only [go_sem, seval, hL1]
  refine AWP.keep [4, 1] (aCode_ok Ty.mixed _ _ _ _ (by kernel_rfl) ?_)
  simp (disch := omega) only [go_sem, seval]
  refine ACalls.det (of_calls Γ 1 [] .full _ (rb_leafs _ [])) ?_
  simp (disch := omega) only [go_sem, seval]
  obtain ⟨K, hK⟩ : ∃ K : Nat → Abs.Own → AH, K = fun n own => h ++ [AObj.row [.int .i64 (-1), .int .i64 2, .sl [oneV 1, oneV 1, oneV 2] .full] 34, AObj.row (deepV 16).cells 34, AObj.row [.int .i64 (-1), .int .i64 1, .sl (List.replicate n (oneV 3)) own] 34] := ⟨_, rfl⟩
  have Kl : ∀ n own, (K n own).length = h.length + 3 := by subst hK; simp
  have Kt : ∀ n own j, (K n own ++ j)[h.length]? = some (.row [.int .i64 (-1), .int .i64 2, .sl [oneV 1, oneV 1, oneV 2] .full] 34) := by subst hK; simp
  have Kd : ∀ n own j, (K n own ++ j)[h.length + 1]? = some (.row [.int .i64 (-1), .int .i64 1, .sl [deepV 15] .full] 34) := by subst hK; intro n own j; rw [List.append_assoc, hget_add]; rfl
  have Kw : ∀ n own j, (K n own ++ j)[h.length + 2]? = some (.row [.int .i64 (-1), .int .i64 1, .sl (List.replicate n (oneV 3)) own] 34) := by subst hK; simp
  have Ks : ∀ n own j m own', (K n own ++ j).set (h.length + 2) (.row [.int .i64 (-1), .int .i64 1, .sl (List.replicate m (oneV 3)) own'] 34) = K m own' ++ j := by subst hK; simp
  refine awp_loopL (β := Nat × Abs.Own × AH) L2 [42, 5, 4, 1] (fun don _ => [(42, .int .i64 don.length), (5, .ptr (some (h.length + 2, 0))), (4, .ptr (some (h.length + 1, 0))), (1, .ptr (some (h.length, 0)))])
    (fun b => K b.1 b.2.1 ++ b.2.2) (fun don _ b => b.1 = don.length ∧ OwnAt (K b.1 b.2.1) b.2.2 b.1 b.2.1) (0, .full, []) ?_ (by subst hK; simp [AV.cells]) ⟨rfl, trivial⟩ Ty.mixed (by kernel_rfl) ?_ ?_
  · simp (disch := omega) only [go_sem, seval]
  · rintro don x r ⟨b, own, j⟩ hl ⟨hb, ho⟩
    simp only at hb ho ⊢
    subst hb
    have hlen : don.length + 1 + r.length = 257 := by have := congrArg List.length hl; simp at this; omega
    simp (disch := omega) only [go_sem, seval]
    refine aIf.pos (by omega) ?_
    simp (disch := omega) only [go_sem, seval, Kw]
    refine aCallF.intro (fun _ => one_calls Γ 3 _) ?_
    simp (disch := omega) only [go_sem, seval]
    refine aAp_sl (by simpa using ho) ?_ ?_ ?_ ?_ (fun j' own' ho' _ => ?_)
    · exact fun q hq => by rw [List.eq_of_mem_replicate hq]; exact ⟨rfl, by simp [oneV, AV.cells, AV.one]⟩
    · exact RowsOK.cons rfl (by simp [AV.cells, AV.one]) (.nil _)
    · rw [List.length_replicate]; simp; omega
    · rw [List.length_replicate]; simp; omega
    have e : List.replicate don.length (oneV 3) ++ [AV.agg [.int .i64 3, .int .i64 0, .sl [] .full]] = List.replicate (don.length + 1) (oneV 3) := by rw [List.replicate_succ']; rfl
    simp (disch := omega) only [go_sem, seval, Kw, e, Ks]
    refine roundL_next (don.length + 1, own', j') ⟨by rw [List.length_append]; rfl, ?_⟩ ?_ rfl
    · have : OwnAt (K don.length own) j' (don.length + 1) own' := by simpa using ho'
      revert this
      cases own' with
      | full => exact fun _ => trivial
      | free => exact id
      | arena i => exact fun ⟨i', e1, e2⟩ => ⟨i', by rw [e1, Kl, Kl], e2⟩
    · simp (disch := omega) only [go_sem, seval, List.length_append]
  rintro ⟨b, own, j⟩ ⟨hb, ho⟩
  simp only at hb ho ⊢
  rw [hL2] at hb
  subst hb
  simp (disch := omega) only [go_sem, seval, hL2]
  refine AWP.keep [5, 4, 1] (aCode_ok Ty.mixed _ _ _ _ (by kernel_rfl) ?_)
  simp (disch := omega) only [go_sem, seval, Kd]
  refine ACalls.det ((check_calls Γ (deepG 16) _ (sh_deep _)).ofLoose (by rw [← loose_deep]; rfl)) ?_
  rw [k_deep16]
  simp (disch := omega) only [go_sem, seval, Kd, deepV_len, deepV_take, deepV_good]
  refine ACalls.det ((check_calls Γ (deepG 15) _ (sh_deep _)).ofLoose (by rw [← loose_deep]; rfl)) ?_
  rw [k_deep15]
  simp (disch := omega) only [go_sem, seval, Kw]
  refine ACalls.det ((check_calls Γ (.mk (-1) 1 (List.replicate 257 (.mk 3 0 []))) _ sh_wide).ofLoose ?_) ?_
  · simp only [looseL, loose, encG_mk, List.map_replicate, looseL_map, oneV, List.map_nil, List.map_cons]
    try rfl
  rw [k_wide]
  simp (disch := omega) only [go_sem, seval, Kt]
  refine ACalls.det ((lholds_calls Γ twiceG true [1] _ sh_twice (by simp)).ofLoose rfl) ?_
  rw [k_h1]
  simp (disch := omega) only [go_sem, seval, Kt]
  refine ACalls.det ((lholds_calls Γ twiceG false [2] _ sh_twice (by simp)).ofLoose rfl) ?_
  rw [k_h2]
  simp (disch := omega) only [go_sem, seval]
  refine ACalls.det (of_calls Γ 1 [] .full _ (rb_leafs _ [])) ?_
  simp (disch := omega) only [go_sem, seval]
  refine ACalls.det ((lholds_calls Γ (.mk (-1) 1 []) false [0, 1, 2] _ (sh_leaf _ _ (by omega) (by omega) (by omega) (by omega)) (by simp)).ofLoose rfl) ?_
  rw [k_h3]
  simp (disch := omega) only [go_sem, seval]
  refine ACalls.det (one_calls Γ 5 _) ?_
  simp (disch := omega) only [go_sem, seval]
  refine ACalls.det ((lholds_calls Γ (.mk 5 0 []) true [4, 5] _ (sh_leaf _ _ (by omega) (by omega) (by omega) (by omega)) (by simp)).ofLoose rfl) ?_
  rw [k_h4]
  simp (disch := omega) only [go_sem, seval]
  exact ⟨_, by subst hK; exact List.append_assoc ..⟩
end Go.Proofs.YtplllkjobpjaoaaGreatDoor.Fr

/- Formulas: what holds of counting, dual formulas and people. No program in sight; no conditions. -/
set_option linter.unusedSimpArgs false
set_option linter.unusedVariables false
namespace Go.Proofs.YtplllkjobpjaoaaGreatDoor.Fr
open Go Go.Proofs Go.Abs

/-! ### People -/
end Go.Proofs.YtplllkjobpjaoaaGreatDoor.Fr
