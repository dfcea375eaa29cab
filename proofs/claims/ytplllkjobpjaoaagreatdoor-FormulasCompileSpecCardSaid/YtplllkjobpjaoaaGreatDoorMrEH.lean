/- Texts joined: PerB, PerC, PerD, PerE. No conditions. -/
import Derived.Test.YtplllkjobpjaoaaGreatDoorMrEF
import Derived.Test.YtplllkjobpjaoaaGreatDoorMrEG
import Derived.Test.YtplllkjobpjaoaaGreatDoorMrAAD
/- The program's people, right, among, some, weight. No conditions. -/
set_option linter.unusedSimpArgs false
set_option linter.unusedVariables false
namespace Go.Proofs.YtplllkjobpjaoaaGreatDoor
open Go Go.Proofs Go.Abs

theorem encI_get (don r : List Int) (x : Int) : (encI (don ++ x :: r))[don.length]? = some (.int .i64 x) := by simp [encI]
theorem ordF_last {lo : Int} {a : List Int} (h : ordF lo a = true) (hlo : lo ≤ 63) : lo ≤ a.getLast?.getD lo ∧ a.getLast?.getD lo ≤ 63 := by
  cases e : a.getLast? with
  | none => exact ⟨Int.le_refl _, hlo⟩
  | some n =>
    have := ordF_lt h n (List.mem_of_getLast? e)
    simp only [Option.getD_some]; omega
set_option maxRecDepth 100000 in
theorem people_calls (Γ : Nat → Option (List AV)) (l : List Int) (h : AH) (hl : l.length ≤ 9223372036854775807) : ACalls Tryz.prog Γ 32 [.sl (encI l) .free] h fun v h' => h' = h ∧ v = .bool (peopleF l) := by
  refine ACalls.drop ?_
  refine acalls_code (rs := [.tmp 2]) Tryz.func32 rfl rfl rfl rfl Ty.mixed (by kernel_rfl) ?_
  simp (disch := omega) only [go_sem, seval, encI_len]
  refine awp_loopL (β := Unit) l [3, 6, 7, 8] (fun don _ => [(3, .int .i64 (don.getLast?.getD (-1))), (6, .sl (encI l) .free), (7, .int .i64 l.length), (8, .int .i64 don.length)]) (fun _ => h) (fun don _ _ => ordF (-1) don = true) () ?_ rfl rfl Ty.mixed (by kernel_rfl) ?_ ?_
  · simp (disch := omega) only [go_sem, seval, List.length_nil, List.getLast?_nil, Option.getD_none]
  · rintro don x r _ hd hp
    have hlen : l.length = don.length + 1 + r.length := by rw [hd]; simp; omega
    have e1 : (encI l)[don.length]? = some (.int .i64 x) := by rw [hd]; exact encI_get don r x
    have hpl : peopleF l = (decide (don.getLast?.getD (-1) < x ∧ x < 64) && ordF x r) := by rw [peopleF, hd, ordF_app _ _ _ _ hp]
    have hnx : ordF (-1) (don ++ [x]) = decide (don.getLast?.getD (-1) < x ∧ x < 64) := by rw [ordF_app _ _ _ _ hp, ordF, Bool.and_true]
    simp (disch := omega) only [go_sem, seval, encI_len]
    refine aIf.pos (by omega) ?_
    simp (disch := omega) only [go_sem, seval, e1]
    refine aIf.intro (fun h1 => ?_) (fun h1 => ?_) <;> simp (disch := omega) only [go_sem, seval]
    · rw [hpl, decide_eq_false (by omega)]; rfl
    refine aIf.intro (fun h2 => ?_) (fun h2 => ?_) <;> simp (disch := omega) only [go_sem, seval]
    · rw [hpl, decide_eq_false (by omega)]; rfl
    refine roundL_next () ?_ ?_ rfl
    · rw [hnx, decide_eq_true (by omega)]
    · simp (disch := omega) only [go_sem, seval, List.length_append, List.getLast?_append, List.getLast?_singleton, Option.some_or, Option.getD_some]
  · rintro _ hp
    simp (disch := omega) only [go_sem, seval, encI_len]
    refine AWP.keep [] (aCode_ok Ty.mixed _ _ _ _ (by kernel_rfl) ?_)
    simp (disch := omega) only [go_sem, seval]
    rw [peopleF, hp]
set_option maxRecDepth 100000 in
theorem pright_calls (Γ : Nat → Option (List AV)) (hs : List (List Hd)) (n : Int) (h : AH) (hl : hs.length ≤ 1000) (hl2 : ∀ l ∈ hs, l.length ≤ 1000) : ACalls Tryz.prog Γ 31 [.sl (encHl hs) .free, .int .i64 n] h fun v h' => h' = h ∧ v = .bool (holdersF hs n) := by
  refine ACalls.drop ?_
  refine acalls_code (rs := [.tmp 4]) Tryz.func31 rfl rfl rfl rfl Ty.mixed (by kernel_rfl) ?_
  simp (disch := omega) only [go_sem, seval, encHl_len]
  refine awp_loopL (β := AH) hs [0, 1, 10, 11, 12] (fun don _ => [(0, .sl (encHl hs) .free), (1, .int .i64 n), (10, .sl (encHl hs) .free), (11, .int .i64 hs.length), (12, .int .i64 don.length)]) (fun j => h ++ j) (fun don _ _ => don.all lineF = true) [] ?_ (by simp) rfl Ty.mixed (by kernel_rfl) ?_ ?_
  · simp (disch := omega) only [go_sem, seval, List.length_nil]
  · rintro don x r j hd hp
    have hlen : hs.length = don.length + 1 + r.length := by rw [hd]; simp; omega
    have e1 : (encHl hs)[don.length]? = some (.sl (x.map encHd) .free) := by rw [hd]; exact rowMid ..
    have hx : x ∈ hs := by rw [hd]; simp
    have hxl := hl2 x hx
    have bad : lineF x = false → holdersF hs n = false := fun e => by
      rw [holdersF, hd, List.all_append, List.all_cons, e]; simp
    simp (disch := omega) only [go_sem, seval, encHl_len]
    refine aIf.pos (by omega) ?_
    simp (disch := omega) only [go_sem, seval, e1, List.length_map]
    obtain ⟨K, hK⟩ : ∃ K : AH, K = h ++ j := ⟨_, rfl⟩
    rw [← hK]
    refine awp_loopL (β := List Int × Abs.Own × AH) x [0, 1, 7, 10, 11, 12, 16, 17, 18] (fun dn b => [(0, .sl (encHl hs) .free), (1, .int .i64 n), (7, .sl (encI b.1) b.2.1), (10, .sl (encHl hs) .free), (11, .int .i64 hs.length), (12, .int .i64 don.length), (16, .sl (x.map encHd) .free), (17, .int .i64 x.length), (18, .int .i64 dn.length)]) (fun b => K ++ b.2.2) (fun dn _ b => b.1 = dn.map Hd.person ∧ dn.all (fun x => decide (1 ≤ x.weight ∧ x.weight ≤ 64)) = true ∧ OwnAt K b.2.2 dn.length b.2.1) ([], .full, []) ?_ (by simp) ⟨rfl, rfl, trivial⟩ Ty.mixed (by kernel_rfl) ?_ ?_
    · simp (disch := omega) only [go_sem, seval, List.length_nil]
      rfl
    · rintro dn y r' ⟨ws, own, X⟩ hdn ⟨hws, hwt, hown⟩
      simp only at hown hws ⊢
      have hlen2 : x.length = dn.length + 1 + r'.length := by rw [hdn]; simp; omega
      have e2 : (x.map encHd)[dn.length]? = some (encHd y) := by rw [hdn]; exact rowMid ..
      have hwl : ws.length = dn.length := by rw [hws, List.length_map]
      have badw : ¬ (1 ≤ y.weight ∧ y.weight ≤ 64) → holdersF hs n = false := fun e => bad (by
        rw [lineF, hdn, List.all_append, List.all_cons, decide_eq_false e]; simp)
      rw [encHd] at e2
      simp (disch := omega) only [go_sem, seval, List.length_map]
      refine aIf.pos (by omega) ?_
      simp (disch := omega) only [go_sem, seval, e2]
      refine aIf.intro (fun h1 => ?_) (fun h1 => ?_) <;> simp (disch := omega) only [go_sem, seval]
      · exact (badw (by omega)).symm ▸ ⟨by simp [hK], rfl⟩
      refine aIf.intro (fun h2 => ?_) (fun h2 => ?_) <;> simp (disch := omega) only [go_sem, seval]
      · exact (badw (by omega)).symm ▸ ⟨by simp [hK], rfl⟩
      have ei : [AV.int .i64 y.person] = encI [y.person] := rfl
      rw [ei]
      refine aAp_sl (by rw [encI_len, hwl]; exact hown.app _) (rowsOK_I _) (rowsOK_I _) (by simp [encI]; omega) (by simp [encI]; omega) fun j' own' ho' hg => ?_
      simp (disch := omega) only [go_sem, seval]
      refine roundL_next (ws ++ [y.person], own', j') ⟨?_, ?_, ?_⟩ ?_ rfl
      · rw [hws]; simp
      · rw [List.all_append, hwt, List.all_cons, decide_eq_true (by omega)]; rfl
      · simpa [encI_len, hwl] using ho'
      · simp (disch := omega) only [go_sem, seval, List.length_append, encI, List.map_append]
    · rintro ⟨ws, own, X⟩ ⟨hws, hwt, hown⟩
      simp only at hown hws ⊢
      simp (disch := omega) only [go_sem, seval, List.length_map]
      refine AWP.keep [0, 1, 7, 10, 11, 12] (aCode_ok Ty.mixed _ _ _ _ (by kernel_rfl) ?_)
      simp (disch := omega) only [go_sem, seval]
      refine ACalls.ofLoose (bs := [.sl (encI ws) .free]) (ACalls.det (people_calls Γ ws _ (by rw [hws, List.length_map]; omega)) ?_) (by simp [looseL, loose, loose_I])
      have hlf : lineF x = peopleF ws := by rw [lineF, hwt, hws, Bool.true_and]
      cases hb : peopleF ws <;> rw [hb] at hlf <;> simp (disch := omega) only [go_sem, seval]
      · exact (bad hlf).symm ▸ ⟨by simp [hK], rfl⟩
      · refine AWP.keep [0, 1, 10, 11, 12] (aCode_ok Ty.mixed _ _ _ _ (by kernel_rfl) ?_)
        simp (disch := omega) only [go_sem, seval]
        refine roundL_next (j ++ X) ?_ ?_ ?_
        · rw [List.all_append, hp, List.all_cons, hlf]; rfl
        · simp (disch := omega) only [go_sem, seval, List.length_append]
        · rw [hK]; simp
  · rintro j hp
    simp (disch := omega) only [go_sem, seval, encHl_len]
    refine AWP.keep [0, 1] (aCode_ok Ty.mixed _ _ _ _ (by kernel_rfl) ?_)
    simp (disch := omega) only [go_sem, seval, encHl_len]
    rw [holdersF, hp]; rfl
end Go.Proofs.YtplllkjobpjaoaaGreatDoor

/- The program's among, some, weight. No conditions. -/
set_option linter.unusedSimpArgs false
set_option linter.unusedVariables false
namespace Go.Proofs.YtplllkjobpjaoaaGreatDoor
open Go Go.Proofs Go.Abs

theorem fdiv_pow (m k : Nat) : ((m : Int).fdiv (2 ^ k)) = ((m / 2 ^ k : Nat) : Int) := by
  rw [Int.fdiv_eq_ediv_of_nonneg _ (Int.le_of_lt (Int.pow_pos (by decide)))]
  simp
set_option maxRecDepth 100000 in
theorem isnan_calls (Γ : Nat → Option (List AV)) (x : Int) (h : AH) : ACalls Tryz.prog Γ 107 [.int .i64 x] h fun v h' => h' = h ∧ v = .bool false := by
  refine ACalls.drop ?_
  refine acalls_code (rs := [.tmp 2]) Tryz.func107 rfl rfl rfl rfl Ty.mixed (by kernel_rfl) ?_
  simp (disch := omega) only [go_sem, seval]
theorem less_calls (Γ : Nat → Option (List AV)) (x y : Int) (h : AH) : ACalls Tryz.prog Γ 100 [.int .i64 x, .int .i64 y] h fun v h' => h' = h ∧ v = .bool (decide (x < y)) := by
  refine ACalls.drop ?_
  refine acalls_code (rs := [.tmp 4]) Tryz.func100 rfl rfl rfl rfl Ty.mixed (by kernel_rfl) ?_
  simp (disch := omega) only [go_sem, seval]
  refine ACalls.det (isnan_calls Γ x _) ?_
  simp (disch := omega) only [go_sem, seval]
theorem pw_get {P : List Int} (hP : P.Pairwise (· < ·)) {a b : Nat} {u v : Int} (ha : P[a]? = some u) (hb : P[b]? = some v) (h : a < b) : u < v := by
  obtain ⟨ha1, rfl⟩ := List.getElem?_eq_some_iff.1 ha
  obtain ⟨hb1, rfl⟩ := List.getElem?_eq_some_iff.1 hb
  exact List.pairwise_iff_getElem.1 hP a b ha1 hb1 h
theorem isnanS_calls (Γ : Nat → Option (List AV)) (x : Int) (h : AH) : ACalls Tryz.prog Γ 101 [.int .i64 x] h fun v h' => h' = h ∧ v = .bool false := by
  refine ACalls.drop ?_
  refine acalls_code (rs := [.tmp 2]) Tryz.func101 rfl rfl rfl rfl Ty.mixed (by kernel_rfl) ?_
  simp (disch := omega) only [go_sem, seval]
set_option maxRecDepth 100000 in
theorem bsearch_calls (Γ : Nat → Option (List AV)) (P : List Int) (x : Int) (h : AH) (hP : P.Pairwise (· < ·)) (hl : P.length ≤ 1000) :
    ACalls Tryz.prog Γ 92 [.sl (encI P) .free, .int .i64 x] h fun v h' => h' = h ∧ ∃ k : Nat, v = .tuple [.int .i64 k, .bool (decide (x ∈ P))] ∧ (x ∈ P → P[k]? = some x) := by
  refine acalls_code (rs := [.tmp 4, .tmp 5]) Tryz.func92 rfl rfl rfl rfl Ty.mixed (by kernel_rfl) ?_
  simp (disch := omega) only [go_sem, seval, encI_len]
  refine awp_loopS (α := Nat × Nat) [0, 1, 6, 7, 8] (fun s => [(0, .sl (encI P) .free), (1, .int .i64 x), (6, .int .i64 P.length), (7, .int .i64 s.1), (8, .int .i64 s.2)]) (fun _ => h)
    (fun s => s.1 ≤ s.2 ∧ s.2 ≤ P.length ∧ (∀ k y, P[k]? = some y → k < s.1 → y < x) ∧ ∀ k y, P[k]? = some y → s.2 ≤ k → x ≤ y) (fun s => s.2 - s.1) (0, P.length) ?_ rfl ⟨by simp, by simp, by simp, fun k y e hk => by have := (List.getElem?_eq_some_iff.1 e).1; omega⟩ Ty.mixed (by kernel_rfl) ?_
  · simp (disch := omega) only [go_sem, seval]
  rintro ⟨i, j⟩ ⟨h1, h2, h3, h4⟩
  simp only at h1 h2 h3 h4 ⊢
  simp (disch := omega) only [go_sem, seval]
  refine aIf.intro (fun hij => ?_) (fun hij => ?_) <;> simp (disch := omega) only [go_sem, seval]
  · obtain ⟨m, hm⟩ : ∃ m, m = (i + j) / 2 := ⟨_, rfl⟩
    have hmid : IntKind.i64.wrap ((IntKind.u64.wrap ((i : Int) + (j : Int))).fdiv (2 ^ min 1 64)) = (m : Int) := by
      rw [show ((i : Int) + (j : Int)) = ((i + j : Nat) : Int) from by omega, IntWalk.u64_in _ ⟨by omega, by omega⟩, show min 1 64 = 1 from rfl, fdiv_pow, IntWalk.i64_in _ ⟨by omega, by omega⟩, hm]
    have hmi : i ≤ m := by omega
    have hmj : m < j := by omega
    obtain ⟨y, hy⟩ : ∃ y, P[m]? = some y := ⟨P[m]'(by omega), by simp⟩
    have e1 : (encI P)[m]? = some (.int .i64 y) := by rw [encI, List.getElem?_map, hy]; rfl
    rw [hmid]
    simp (disch := omega) only [go_sem, seval, encI_len, e1]
    refine ACalls.det (less_calls Γ y x _) ?_
    simp (disch := omega) only [go_sem, seval]
    refine aIf.intro (fun hyx => ?_) (fun hyx => ?_) <;> simp (disch := omega) only [go_sem, seval]
    · refine roundS_next (m + 1, j) (by simp only; omega) ⟨by simp only; omega, h2, fun k z e hk => ?_, h4⟩ ?_ rfl
      · simp only at hk
        rcases Nat.lt_or_ge k m with hkm | hkm
        · have := pw_get hP e hy hkm; omega
        · have : k = m := by omega
          subst this; rw [hy] at e; cases e; exact hyx
      · simp (disch := omega) only [go_sem, seval]
    · refine roundS_next (i, m) (by simp only; omega) ⟨hmi, by simp only; omega, h3, fun k z e hk => ?_⟩ ?_ rfl
      · simp only at hk
        rcases Nat.lt_or_ge m k with hkm | hkm
        · have := pw_get hP hy e hkm; omega
        · have : k = m := by omega
          subst this; rw [hy] at e; cases e; omega
      · simp (disch := omega) only [go_sem, seval]
  · have hij2 : i = j := by omega
    subst hij2
    refine AWP.keep [0, 1, 6, 7] (aCode_ok Ty.mixed _ _ _ _ (by kernel_rfl) ?_)
    simp (disch := omega) only [go_sem, seval]
    refine aIf.intro (fun hi => ?_) (fun hi => ?_) <;> simp (disch := omega) only [go_sem, seval]
    · obtain ⟨y, hy⟩ : ∃ y, P[i]? = some y := ⟨P[i]'(by omega), by simp⟩
      have e1 : (encI P)[i]? = some (.int .i64 y) := by rw [encI, List.getElem?_map, hy]; rfl
      simp (disch := omega) only [go_sem, seval, encI_len, e1]
      refine aIf.intro (fun hyx => ?_) (fun hyx => ?_) <;> simp (disch := omega) only [go_sem, seval]
      · subst hyx
        have hmem : y ∈ P := List.mem_of_getElem? hy
        refine ⟨i, ?_, fun _ => hy⟩
        rw [decide_eq_true hmem]
      · simp (disch := omega) only [go_sem, seval, encI_len, e1]
        refine ACalls.det (isnanS_calls Γ y _) ?_
        simp (disch := omega) only [go_sem, seval]
        have hnm : x ∉ P := fun hx => by
          obtain ⟨k, hk, rfl⟩ := List.mem_iff_getElem.1 hx
          have hk' : P[k]? = some P[k] := by simp [hk]
          rcases Nat.lt_trichotomy k i with c | c | c
          · have := h3 k _ hk' c; omega
          · subst c; rw [hk'] at hy; cases hy; exact hyx rfl
          · have := h4 i _ hy (Nat.le_refl _)
            have := pw_get hP hy hk' c; omega
        refine ⟨i, ?_, fun e => absurd e hnm⟩
        rw [decide_eq_false hnm]
    · have hnm : x ∉ P := fun hx => by
        obtain ⟨k, hk, rfl⟩ := List.mem_iff_getElem.1 hx
        have hk' : P[k]? = some P[k] := by simp [hk]
        have := h3 k _ hk' (by omega); omega
      refine ⟨i, ?_, fun e => absurd e hnm⟩
      rw [decide_eq_false hnm]
/-- A question: a value, holders, people. -/
def qC (v : Int) (hs : List (List Hd)) (who : List Int) : List AV := [.int .i64 v, .sl (encHl hs) .free, .sl (encI who) .free]
def encQ (v : Int) (hs : List (List Hd)) (who : List Int) : AV := .agg (qC v hs who)
def amongV (v : Int) (hs : List (List Hd)) (who : List Int) (no : Int) : AV := .func 91 [] [.eptr (qC v hs who), .eptr [.int .i64 no]]
def amongL (hs : List (List Hd)) (who : List Int) (no : Int) : List Hd := (rowH hs no).filter fun x => hasP who x.person
set_option maxRecDepth 100000 in
theorem among_calls (Γ : Nat → Option (List AV)) (v : Int) (hs : List (List Hd)) (who : List Int) (no : Int) (h : AH) : ACalls Tryz.prog Γ 75 [encQ v hs who, .int .i64 no] h fun w h' => h' = h ∧ w = amongV v hs who no := by
  rw [amongV, encQ, qC]
  refine ACalls.dropL ?_
  refine ACalls.freeze ?_
  refine ACalls.freeze ?_
  refine acalls_code (rs := [.tmp 4]) Tryz.func75 rfl rfl rfl rfl Ty.mixed (by kernel_rfl) ?_
  simp (disch := omega) only [go_sem, seval]
  have e1 : ∀ a b : AObj, (h ++ [a, b])[h.length]? = some a := fun a b => by simp
  have e2 : ∀ a b : AObj, ((h ++ [a, b]).set h.length .frozen)[h.length + 1]? = some b := fun a b => by rw [List.getElem?_set_ne (by omega)]; simp
  have e4 : ∀ a b : AObj, ∃ l, ((h ++ [a, b]).set h.length .frozen).set (h.length + 1) .frozen = h ++ l := fun a b => ⟨[.frozen, .frozen], by
    have a1 : (h ++ [a, b]).set (h.length + 0) .frozen = h ++ [.frozen, b] := hset_add ..
    have a2 : (h ++ [.frozen, b]).set (h.length + 1) .frozen = h ++ [.frozen, .frozen] := hset_add ..
    rw [Nat.add_zero] at a1
    rw [a1, a2]⟩
  refine ⟨h.length, _, _, _, e1 _ _, Froze.set (e1 _ _), h.length + 1, _, _, _, e2 _ _, Froze.set (e2 _ _), e4 _ _, ?_, ?_⟩
  · simp only [fzV, fzL, if_true, List.drop_zero]
    rw [if_neg (by omega)]
    simp only [fzV, fzL, if_true, List.drop_zero, loose, looseL, loose_HH, loose_I]
    exact .func (RBs.nil _) (RBs.cons (.eptr (RBs.cons (.int _ _) (RBs.cons (of_eq_true (rb_HH _ _)) (RBs.cons (of_eq_true (rb_I _ _)) (RBs.nil _))))) (RBs.cons (.eptr (RBs.cons (.int _ _) (RBs.nil _))) (RBs.nil _)))
  · simp only [fzV, fzL, if_true, List.drop_zero]
    rw [if_neg (by omega)]
    simp only [fzV, fzL, if_true, List.drop_zero, loose, looseL, loose_HH, loose_I]
set_option maxRecDepth 100000 in
theorem among1_calls (Γ : Nat → Option (List AV)) (v : Int) (hs : List (List Hd)) (who : List Int) (no : Int) (h0 : 0 ≤ no ∧ no < hs.length) (hl : (rowH hs no).length ≤ 1000) (hw : who.Pairwise (· < ·)) (hwl : who.length ≤ 1000) :
    IterC Tryz.prog Γ 91 [.eptr (qC v hs who), .eptr [.int .i64 no]] (fun x => [encHd x]) (amongL hs who no) := by
  intro L I S hh HA HS HY hI
  have e0 : (encHl hs)[no.toNat]? = some (.sl ((rowH hs no).map encHd) .free) := by
    have : no.toNat < hs.length := by omega
    rw [encHl, List.getElem?_map, rowH, List.getD_eq_getElem?_getD, List.getElem?_eq_getElem this]; rfl
  rw [amongL] at HY ⊢
  rw [qC]
  generalize rowH hs no = l at e0 HY hl ⊢
  refine acalls_code (rs := []) Tryz.func91 rfl rfl rfl rfl Ty.mixed (by kernel_rfl) ?_
  simp (disch := omega) only [go_sem, seval]
  refine ⟨by omega, ?_⟩
  rw [e0]
  simp (disch := omega) only [go_sem, seval, List.length_map]
  refine awp_loopV l [0, 1, 2, 12, 13, 14] (fun don => [(0, .yield L), (1, .eptr [.int .i64 v, .sl (encHl hs) .free, .sl (encI who) .free]), (2, .eptr [.int .i64 no]), (12, .sl (l.map encHd) .free), (13, .int .i64 l.length), (14, .int .i64 don.length)])
    (fun don _ h => I (don.filter fun x => hasP who x.person) h) ?_ hI ?_ ?_
  · simp (disch := omega) only [go_sem, seval, List.length_nil]
  · rintro don x r h hd hIh
    have hlen : l.length = don.length + 1 + r.length := by rw [hd]; simp; omega
    have e1 : (l.map encHd)[don.length]? = some (encHd x) := by rw [hd]; exact rowMid ..
    rw [encHd] at e1
    refine awp_seq (aCode_ok Ty.mixed _ _ _ _ (by kernel_rfl) ?_)
    simp (disch := omega) only [go_sem, seval]
    refine awp_seq (aCode_ok Ty.mixed _ _ _ _ (by kernel_rfl) ?_)
    simp (disch := omega) only [go_sem, seval]
    refine aIf.pos (by omega) ?_
    simp (disch := omega) only [go_sem, seval]
    refine awp_seq (awp_block ?_)
    refine awp_seq (aCode_ok Ty.mixed _ _ _ _ (by kernel_rfl) ?_)
    simp (disch := omega) only [go_sem, seval, e1]
    have hg : (h ++ [.row [.int .i64 x.person, .int .i64 x.weight] 75])[h.length]? = some (.row [.int .i64 x.person, .int .i64 x.weight] 75) := by simp
    refine aCode_ok Ty.mixed _ _ _ _ (by kernel_rfl) ?_
    simp (disch := omega) only [go_sem, seval]
    refine (bsearch_calls Γ who x.person _ hw hwl).mono fun w h' ⟨e1, k, e2, _⟩ => ?_
    subst e1 e2
    simp (disch := omega) only [go_sem, seval]
    have hP : hasP who x.person = decide (x.person ∈ who) := rfl
    refine aIf.intro (fun hb => ?_) (fun hb => ?_) <;> simp (disch := omega) only [go_sem, seval]
    · rw [decide_eq_true hb] at hP
      obtain ⟨r', e'⟩ : ∃ r', l.filter (fun x => hasP who x.person) = don.filter (fun x => hasP who x.person) ++ x :: r' := ⟨r.filter fun x => hasP who x.person, by rw [hd, List.filter_append, List.filter_cons_of_pos (p := fun x : Hd => hasP who x.person) hP]⟩
      refine (HY _ x r' _ e' (HA _ _ _ (NoLoop.row1 _ _) hIh)).mono ?_
      rintro w h2 (⟨rfl, hI2⟩ | ⟨rfl, hS2⟩) <;> simp (disch := omega) only [go_sem, seval]
      · refine aCode_ok Ty.mixed _ _ _ _ (by kernel_rfl) ?_
        simp (disch := omega) only [go_sem, seval, List.length_append]
        rwa [List.filter_append, List.filter_cons_of_pos (p := fun x : Hd => hasP who x.person) hP, List.filter_nil]
      · exact .inr hS2
    · rw [decide_eq_false hb] at hP
      refine aCode_ok Ty.mixed _ _ _ _ (by kernel_rfl) ?_
      simp (disch := omega) only [go_sem, seval, List.length_append]
      rw [List.filter_append, List.filter_cons_of_neg (p := fun x : Hd => hasP who x.person) (by rw [hP]; decide), List.filter_nil, List.append_nil]
      exact HA _ _ _ (NoLoop.row1 _ _) hIh
  · rintro h hIh
    refine aCode_ok Ty.mixed _ _ _ _ (by kernel_rfl) ?_
    simp (disch := omega) only [go_sem, seval, List.length_map]
    exact .inl hIh
set_option maxRecDepth 100000 in
theorem psome_calls (Γ : Nat → Option (List AV)) (v : Int) (hs : List (List Hd)) (who : List Int) (x : Ex) (h : AH) (h0 : 0 ≤ x.no ∧ x.no < hs.length) (hl : (rowH hs x.no).length ≤ 1000) (hw : who.Pairwise (· < ·)) (hwl : who.length ≤ 1000) :
    ACalls Tryz.prog Γ 47 [encQ v hs who, encX x] h fun w h' => h' = h ∧ w = .bool (anyH who (rowH hs x.no)) := by
  have c1 := fun h => among_calls Γ v hs who x.no h
  have c2 := among1_calls Γ v hs who x.no h0 hl hw hwl
  have hany : anyH who (rowH hs x.no) = !(amongL hs who x.no).isEmpty := by
    rw [anyH, amongL]
    induction rowH hs x.no with
    | nil => rfl
    | cons y r ih => rw [List.any_cons]; cases hp : hasP who y.person <;> simp [List.filter_cons, hp, ih]
  refine ACalls.drop ?_
  rw [encX_eq, encQ, qC] at *
  refine acalls_code (rs := [.cell 4 4]) Tryz.func47 rfl rfl rfl rfl Ty.mixed (by kernel_rfl) ?_
  simp (disch := omega) only [go_sem, seval]
  refine ACalls.det (c1 _) ?_
  simp (disch := omega) only [go_sem, seval, amongV]
  rw [qC]
  refine AWP.keep [4, 8] ?_
  simp (disch := omega) only [go_sem, seval]
  obtain ⟨K, hK⟩ : ∃ K : AH, K = h ++ [.row [.int .i64 v, .sl (encHl hs) .free, .sl (encI who) .free] 68, .row [.int .i64 x.k, .int .i64 x.n, .int .i64 x.no, .str ⟨⟨x.name⟩⟩, .sl (x.l.map encX) .free] 26] := ⟨_, rfl⟩
  have hKl : h.length + 2 = K.length := by rw [hK]; simp
  have eh : ∀ b : Bool, h ++ [.row [.int .i64 v, .sl (encHl hs) .free, .sl (encI who) .free] 68, .row [.int .i64 x.k, .int .i64 x.n, .int .i64 x.no, .str ⟨⟨x.name⟩⟩, .sl (x.l.map encX) .free] 26, .row [.bool b] 4] = K ++ [.row [.bool b] 4] := fun b => by rw [hK]; simp
  rw [eh, hKl]
  refine awp_iter c2 rfl _ (fun _ => [.row [.bool false] 4]) [.row [.bool true] 4] .ret (fun don => don = []) (amongL hs who x.no ≠ []) 1 (fun _ => rfl) (fun _ => NoLoop.row1 _ _) rfl (NoLoop.row1 _ _) rfl ?_ ?_ ?_
  · rintro li hli don y r Y hd rfl
    rw [encHd]
    refine ayield_L hli (by rw [List.append_assoc, List.getElem?_append_right (by omega)]; simp) (by kernel_rfl) rfl Ty.mixed (by kernel_rfl) (by kernel_rfl) ?_
    simp (disch := omega) only [go_sem, seval, List.append_assoc, List.cons_append, List.nil_append]
    exact .inr ⟨by rw [hd]; simp, [], NoLoop.none, by simp⟩
  · rintro hj Y
    simp (disch := omega) only [go_sem, seval, List.append_assoc, List.cons_append, List.nil_append]
    refine aCode_ok Ty.mixed _ _ _ _ (by kernel_rfl) ?_
    simp (disch := omega) only [go_sem, seval]
    rw [hany, hj, hK]
    simp
  · rintro hj Y
    refine aCode_ok Ty.mixed _ _ _ _ (by kernel_rfl) ?_
    simp (disch := omega) only [go_sem, seval, List.append_assoc, List.cons_append, List.nil_append]
    rw [hany, hK]
    simp [hj]
/-- The sum of weights. -/
def wSum (l : List Hd) : Int := (l.map Hd.weight).sum
theorem wSum_app (a : List Hd) (x : Hd) : wSum (a ++ [x]) = wSum a + x.weight := by simp [wSum]
theorem wSum_bd (l : List Hd) (hw : ∀ x ∈ l, 1 ≤ x.weight ∧ x.weight ≤ 64) : 0 ≤ wSum l ∧ wSum l ≤ 64 * l.length := by
  induction l with
  | nil => simp [wSum]
  | cons x r ih =>
    have h1 := ih fun y hy => hw y (by simp [hy])
    have h2 := hw x (by simp)
    have : wSum (x :: r) = x.weight + wSum r := by simp [wSum]
    rw [this, List.length_cons]; omega
theorem wSum_among (hs : List (List Hd)) (who : List Int) (no : Int) : wSum (amongL hs who no) = sumH who (rowH hs no) := by
  rw [amongL]
  induction rowH hs no with
  | nil => rfl
  | cons x r ih =>
    rw [sumH, ← ih]
    cases hp : hasP who x.person <;> simp [List.filter_cons, hp, wSum]
set_option maxRecDepth 100000 in
theorem wt1_calls (Γ : Nat → Option (List AV)) (y : Hd) (i : Nat) (s : Int) (h : AH) (hi : h[i]? = some (.row [.int .i64 s] 3)) (hb : -9223372036854775808 ≤ s + y.weight ∧ s + y.weight ≤ 9223372036854775807) :
    ACalls Tryz.prog Γ 76 [encHd y, .ptr (some (i, 0))] h fun _ h' => h' = h.set i (.row [.int .i64 (s + y.weight)] 3) ++ [.row [.int .i64 y.person, .int .i64 y.weight] 75] := by
  have hil := (List.getElem?_eq_some_iff.1 hi).1
  have hne : h.length ≠ i := by omega
  have hi2 : ∀ o : AObj, (h ++ [o])[i]? = some (.row [.int .i64 s] 3) := fun o => by rw [List.getElem?_append_left hil]; exact hi
  rw [encHd]
  refine acalls_code (rs := []) Tryz.func76 rfl rfl rfl rfl Ty.mixed (by kernel_rfl) ?_
  simp (disch := omega) only [go_sem, seval, hi2]
  exact List.set_append_left _ _ hil
set_option maxRecDepth 100000 in
theorem pweight_calls (Γ : Nat → Option (List AV)) (v : Int) (hs : List (List Hd)) (who : List Int) (x : Ex) (h : AH) (h0 : 0 ≤ x.no ∧ x.no < hs.length) (hl : (rowH hs x.no).length ≤ 1000) (hwt : ∀ y ∈ rowH hs x.no, 1 ≤ y.weight ∧ y.weight ≤ 64) (hw : who.Pairwise (· < ·)) (hwl : who.length ≤ 1000) :
    ACalls Tryz.prog Γ 48 [encQ v hs who, encX x] h fun w h' => h' = h ∧ w = .bool (decide (x.n ≤ sumH who (rowH hs x.no))) := by
  have c1 := fun h => among_calls Γ v hs who x.no h
  have c2 := among1_calls Γ v hs who x.no h0 hl hw hwl
  rw [← wSum_among]
  have hal : (amongL hs who x.no).length ≤ 1000 := Nat.le_trans (List.length_filter_le _ _) hl
  have haw : ∀ y ∈ amongL hs who x.no, 1 ≤ y.weight ∧ y.weight ≤ 64 := fun y hy => hwt y (List.mem_filter.1 hy).1
  refine ACalls.drop ?_
  rw [encX_eq, encQ, qC] at *
  refine acalls_code (rs := [.tmp 4]) Tryz.func48 rfl rfl rfl rfl Ty.mixed (by kernel_rfl) ?_
  simp (disch := omega) only [go_sem, seval]
  refine ACalls.det (c1 _) ?_
  simp (disch := omega) only [go_sem, seval, amongV]
  rw [qC]
  refine AWP.keep [3, 5, 6, 12] ?_
  simp (disch := omega) only [go_sem, seval]
  obtain ⟨K, hK⟩ : ∃ K : AH, K = h ++ [.row [.int .i64 v, .sl (encHl hs) .free, .sl (encI who) .free] 68, .row [.int .i64 x.k, .int .i64 x.n, .int .i64 x.no, .str ⟨⟨x.name⟩⟩, .sl (x.l.map encX) .free] 26] := ⟨_, rfl⟩
  have hKl : h.length + 2 = K.length := by rw [hK]; simp
  have hKl1 : h.length + 3 = K.length + 1 := by omega
  have hKx : ∀ l, (K ++ l)[h.length + 1]? = some (.row [.int .i64 x.k, .int .i64 x.n, .int .i64 x.no, .str ⟨⟨x.name⟩⟩, .sl (x.l.map encX) .free] 26) := fun l => by rw [hK]; simp
  rw [show h ++ [.row [.int .i64 v, .sl (encHl hs) .free, .sl (encI who) .free] 68, .row [.int .i64 x.k, .int .i64 x.n, .int .i64 x.no, .str ⟨⟨x.name⟩⟩, .sl (x.l.map encX) .free] 26, .row [.int .i64 0] 3, .row [.func 76 [] [.ptr (some (h.length + 2, 0))]] 104] = K ++ [.row [.int .i64 (wSum [])] 3, .row [.func 76 [] [.ptr (some (K.length, 0))]] 104] from by rw [hKl, hK]; simp [wSum]]
  rw [hKl1, hKl]
  have hnl : ∀ n : Int, NoLoop [.row [.int .i64 n] 3, .row [.func 76 [] [.ptr (some (K.length, 0))]] 104] := fun n => (NoLoop.row1 [.int .i64 n] 3).app2 (NoLoop.row1 [.func 76 [] [.ptr (some (K.length, 0))]] 104)
  refine awp_iter c2 rfl K (fun don => [.row [.int .i64 (wSum don)] 3, .row [.func 76 [] [.ptr (some (K.length, 0))]] 104]) [.row [.int .i64 0] 3, .row [.func 76 [] [.ptr (some (K.length, 0))]] 104] .ret (fun _ => True) False 2 (fun _ => rfl) (fun _ => hnl _) rfl (hnl _) trivial ?_ ?_ (fun hf => hf.elim)
  · rintro li hli don y r Y hd -
    have hdl : don.length + 1 ≤ 1000 := by rw [hd] at hal; simp at hal; omega
    have hb1 := wSum_bd don fun z hz => haw z (by rw [hd]; simp [hz])
    have hb2 := haw y (by rw [hd]; simp)
    have c3 := fun i h hi => wt1_calls Γ y i (wSum don) h hi (by omega)
    rw [← wSum_app] at c3
    rw [encHd] at c3 ⊢
    refine ayield_L hli (by rw [List.append_assoc, List.getElem?_append_right (by omega)]; simp) (by kernel_rfl) rfl Ty.mixed (by kernel_rfl) (by kernel_rfl) ?_
    simp (disch := omega) only [go_sem, seval, List.append_assoc, List.cons_append, List.nil_append]
    have hst : ∀ (a : AObj) (l : AH) (o : AObj), (K ++ a :: l).set K.length o = K ++ o :: l := fun a l o => by simp
    refine (c3 K.length _ (by simp)).mono fun w h' e => ?_
    subst e
    rw [hst]
    simp (disch := omega) only [go_sem, seval, List.append_assoc, List.cons_append, List.nil_append]
    exact .inl ⟨[_, _], (NoLoop.row1 _ _).app2 (NoLoop.row1 _ _), rfl⟩
  · rintro - Y
    simp (disch := omega) only [go_sem, seval, List.append_assoc, List.cons_append, List.nil_append]
    refine aCode_ok Ty.mixed _ _ _ _ (by kernel_rfl) ?_
    simp (disch := omega) only [go_sem, seval, hKx]
    exact ⟨_, by rw [hK, List.append_assoc]⟩
end Go.Proofs.YtplllkjobpjaoaaGreatDoor

/- The program's of, upto, fulfil. No conditions. -/
set_option linter.unusedSimpArgs false
set_option linter.unusedVariables false
namespace Go.Proofs.YtplllkjobpjaoaaGreatDoor
open Go Go.Proofs Go.Abs

/-- What fulfil says of an expression. -/
def FulC (Γ : Nat → Option (List AV)) (v : Int) (hs : List (List Hd)) (who : List Int) (x : Ex) : Prop :=
  ∀ h, ACalls Tryz.prog Γ 33 [encQ v hs who, encX x] h fun w h' => h' = h ∧ w = .bool (fulF v hs who x)
set_option maxRecDepth 100000 in
theorem pof_calls (Γ : Nat → Option (List AV)) (v : Int) (hs : List (List Hd)) (who : List Int) (x : Ex) (h : AH) (hl : x.l.length ≤ 1000) (IH : ∀ y ∈ x.l, FulC Γ v hs who y) :
    ACalls Tryz.prog Γ 49 [encQ v hs who, encX x] h fun w h' => h' = h ∧ w = .bool (decide (x.n ≤ cntT (x.l.map (fulF v hs who)))) := by
  refine ACalls.drop ?_
  simp only [FulC, encQ, qC] at IH ⊢
  rw [encX_eq]
  refine acalls_code (rs := [.tmp 4]) Tryz.func49 rfl rfl rfl rfl Ty.mixed (by kernel_rfl) ?_
  simp (disch := omega) only [go_sem, seval, List.length_map]
  refine awp_loopL (β := AH) x.l [2, 3, 5, 9, 10, 11] (fun don _ => [(2, .ptr (some (h.length, 0))), (3, .ptr (some (h.length + 1, 0))), (5, .int .i64 (cntT (don.map (fulF v hs who)))), (9, .sl (x.l.map encX) .free), (10, .int .i64 x.l.length), (11, .int .i64 don.length)]) (fun j => h ++ .row [.int .i64 v, .sl (encHl hs) .free, .sl (encI who) .free] 68 :: .row [.int .i64 x.k, .int .i64 x.n, .int .i64 x.no, .str ⟨⟨x.name⟩⟩, .sl (x.l.map encX) .free] 26 :: j) (fun _ _ _ => True) [] ?_ rfl trivial Ty.mixed (by kernel_rfl) ?_ ?_
  · simp (disch := omega) only [go_sem, seval, List.length_nil]
    rfl
  · rintro don y r j hd -
    have hlen : x.l.length = don.length + 1 + r.length := by rw [hd]; simp; omega
    have e1 : (x.l.map encX)[don.length]? = some (encX y) := by rw [hd]; exact rowMid ..
    have hb := cntT_bd (don.map (fulF v hs who))
    rw [List.length_map] at hb
    have c1 := IH y (by rw [hd]; simp)
    rw [encX_eq] at e1 c1
    simp (disch := omega) only [go_sem, seval, List.length_map]
    refine aIf.pos (by omega) ?_
    simp (disch := omega) only [go_sem, seval, e1]
    refine ACalls.det (c1 _) ?_
    have hn : cntT ((don ++ [y]).map (fulF v hs who)) = cntT (don.map (fulF v hs who)) + (if fulF v hs who y then 1 else 0) := by
      rw [List.map_append, cntT_app]; simp [cntT]
    cases hf : fulF v hs who y <;> rw [hf] at hn <;> simp (disch := omega) only [go_sem, seval]
    · rw [if_neg (by decide), Int.add_zero] at hn
      refine roundL_next (j ++ [.row [.int .i64 y.k, .int .i64 y.n, .int .i64 y.no, .str ⟨⟨y.name⟩⟩, .sl (y.l.map encX) .free] 26]) trivial ?_ ?_
      · simp (disch := omega) only [go_sem, seval, List.length_append, hn]
      · simp
    · refine roundL_next (j ++ [.row [.int .i64 y.k, .int .i64 y.n, .int .i64 y.no, .str ⟨⟨y.name⟩⟩, .sl (y.l.map encX) .free] 26]) trivial ?_ ?_
      · simp (disch := omega) only [go_sem, seval, List.length_append, hn]
      · simp
  · rintro j -
    simp (disch := omega) only [go_sem, seval, List.length_map]
    refine AWP.keep [3, 5] (aCode_ok Ty.mixed _ _ _ _ (by kernel_rfl) ?_)
    simp (disch := omega) only [go_sem, seval]
set_option maxRecDepth 100000 in
theorem pupto_calls (Γ : Nat → Option (List AV)) (v : Int) (hs : List (List Hd)) (who : List Int) (x : Ex) (h : AH) (hl : x.l.length = 2) (IH : ∀ y ∈ x.l, FulC Γ v hs who y) :
    ACalls Tryz.prog Γ 50 [encQ v hs who, encX x] h fun w h' => h' = h ∧ w = .bool ((x.l.map (fulF v hs who)).getD (if v ≤ x.n then 0 else 1) false) := by
  obtain ⟨a, b, hab⟩ : ∃ a b, x.l = [a, b] := by
    match hx : x.l with
    | [] => rw [hx] at hl; cases hl
    | [_] => rw [hx] at hl; cases hl
    | [a, b] => exact ⟨a, b, rfl⟩
    | _ :: _ :: _ :: _ => rw [hx] at hl; simp at hl
  refine ACalls.drop ?_
  simp only [FulC, encQ, qC] at IH ⊢
  rw [encX_eq]
  have ia := IH a (by rw [hab]; simp)
  have ib := IH b (by rw [hab]; simp)
  rw [hab, List.map_cons, List.map_cons, List.map_nil, List.map_cons, List.map_cons, List.map_nil]
  refine acalls_code (rs := [.tmp 4]) Tryz.func50 rfl rfl rfl rfl Ty.mixed (by kernel_rfl) ?_
  simp (disch := omega) only [go_sem, seval]
  refine aIf.intro (fun h1 => ?_) (fun h1 => ?_) <;> simp (disch := omega) only [go_sem, seval]
  · refine aCallF.intro (fun _ => ia _) ?_
    simp (disch := omega) only [go_sem, seval]
    rw [if_pos h1]; rfl
  · refine aCallF.intro (fun _ => ib _) ?_
    simp (disch := omega) only [go_sem, seval]
    rw [if_neg h1]; rfl
/-- Holders and people whose numbers are right. -/
structure HdOK (hs : List (List Hd)) (who : List Int) : Prop where
  len : ∀ l ∈ hs, l.length ≤ 1000
  wt : ∀ l ∈ hs, ∀ y ∈ l, 1 ≤ y.weight ∧ y.weight ≤ 64
  pw : who.Pairwise (· < ·)
  wl : who.length ≤ 1000
theorem rowH_mem {hs : List (List Hd)} {no : Int} (h : 0 ≤ no ∧ no < hs.length) : rowH hs no ∈ hs := by
  have : no.toNat < hs.length := by omega
  rw [rowH, List.getD_eq_getElem?_getD, List.getElem?_eq_getElem this]
  exact List.getElem_mem this
set_option maxRecDepth 100000 in
theorem fulfil_calls_k (Γ : Nat → Option (List AV)) (v : Int) (hs : List (List Hd)) (who : List Int) (H : HdOK hs who) (o : List Tx) (u : Bool) (ho : o.length = hs.length) : ∀ (m : Nat) (x : Ex), SizeOf.sizeOf x < m → okX o u x = true → FulC Γ v hs who x
  | 0, _, hk, _ => absurd hk (Nat.not_lt_zero _)
  | m + 1, x, hsz, hok => by
    have IH : ∀ y ∈ x.l, FulC Γ v hs who y := fun y hy => fulfil_calls_k Γ v hs who H o u ho m y (by cases x; exact memX_sz hy hsz) (okX_sub hok hy)
    have htop := okX_top hok
    have hk := okF_kind htop
    intro h
    have hd := fulF_eq v hs who x
    have c3 : ∀ h, x.k = 3 → _ := fun h e => pof_calls Γ v hs who x h (by have := okF_of htop e; omega) IH
    have c4 : ∀ h, x.k = 4 → _ := fun h e => pupto_calls Γ v hs who x h (okF_upto htop e).1 IH
    have hno : x.k = 1 ∨ x.k = 2 → 0 ≤ x.no ∧ x.no < hs.length := fun e => by have := okF_named htop e; omega
    have c1 : ∀ h, x.k = 1 → _ := fun h e => psome_calls Γ v hs who x h (hno (.inl e)) (H.len _ (rowH_mem (hno (.inl e)))) H.pw H.wl
    have c2 : ∀ h, x.k = 2 → _ := fun h e => pweight_calls Γ v hs who x h (hno (.inr e)) (H.len _ (rowH_mem (hno (.inr e)))) (H.wt _ (rowH_mem (hno (.inr e)))) H.pw H.wl
    rw [encX_eq] at *
    simp only [encQ, qC] at *
    refine ACalls.drop ?_
    refine acalls_code (rs := [.tmp 4]) Tryz.func33 rfl rfl rfl rfl Ty.mixed (by kernel_rfl) ?_
    simp (disch := omega) only [go_sem, seval]
    refine ⟨by omega, by omega, ?_⟩
    obtain e | e | e | e : x.k = 1 ∨ x.k = 2 ∨ x.k = 3 ∨ x.k = 4 := by omega
    · have c := fun h => c1 h e
      rw [e] at c hd ⊢
      simp (disch := omega) only [go_sem, seval]
      refine aCallF.intro (fun _ => c _) ?_
      simp (disch := omega) only [go_sem, seval]
      rw [hd]; rfl
    · have c := fun h => c2 h e
      rw [e] at c hd ⊢
      simp (disch := omega) only [go_sem, seval]
      refine aCallF.intro (fun _ => c _) ?_
      simp (disch := omega) only [go_sem, seval]
      rw [hd]; rfl
    · have c := fun h => c3 h e
      rw [e] at c hd ⊢
      simp (disch := omega) only [go_sem, seval]
      refine aCallF.intro (fun _ => c _) ?_
      simp (disch := omega) only [go_sem, seval]
      rw [hd]; rfl
    · have c := fun h => c4 h e
      rw [e] at c hd ⊢
      simp (disch := omega) only [go_sem, seval]
      refine aCallF.intro (fun _ => c _) ?_
      simp (disch := omega) only [go_sem, seval]
      rw [hd]; rfl
theorem fulfil_calls (Γ : Nat → Option (List AV)) (v : Int) (hs : List (List Hd)) (who : List Int) (H : HdOK hs who) (o : List Tx) (u : Bool) (ho : o.length = hs.length) (x : Ex) (hx : okX o u x = true) : FulC Γ v hs who x :=
  fulfil_calls_k Γ v hs who H o u ho _ x (Nat.lt_succ_self _) hx
end Go.Proofs.YtplllkjobpjaoaaGreatDoor

/- The program's Permits, Changes. No conditions. -/
set_option linter.unusedSimpArgs false
set_option linter.unusedVariables false
namespace Go.Proofs.YtplllkjobpjaoaaGreatDoor
open Go Go.Proofs Go.Abs

theorem line_facts {l : List Hd} (h : lineF l = true) : (∀ y ∈ l, 1 ≤ y.weight ∧ y.weight ≤ 64) ∧ (l.map Hd.person).Pairwise (· < ·) ∧ (∀ y ∈ l, 0 ≤ y.person ∧ y.person < 64) ∧ l.length ≤ 64 := by
  rw [lineF, Bool.and_eq_true, List.all_eq_true] at h
  have h2 := (peopleF_iff _).1 h.2
  have h3 := people_len h.2
  rw [List.length_map] at h3
  exact ⟨fun y hy => by simpa using h.1 y hy, h2.1, fun y hy => h2.2 _ (List.mem_map.2 ⟨y, hy, rfl⟩), h3⟩
theorem hd_ok {hs : List (List Hd)} {n : Int} {who : List Int} (h1 : holdersF hs n = true) (h2 : peopleF who = true) : HdOK hs who ∧ (hs.length : Int) = n := by
  rw [holdersF, Bool.and_eq_true, List.all_eq_true, decide_eq_true_eq] at h1
  exact ⟨⟨fun l hl => by have := (line_facts (h1.1 l hl)).2.2.2; omega, fun l hl => (line_facts (h1.1 l hl)).1, ((peopleF_iff _).1 h2).1, by have := people_len h2; omega⟩, h1.2⟩
/-- The numbers of holders and people are small enough. -/
structure Szs (hs : List (List Hd)) (who : List Int) : Prop where
  n : hs.length ≤ 1000
  l : ∀ l ∈ hs, l.length ≤ 1000
  w : who.length ≤ 1000
def encB2 (x : Bool × Int) : AV := .tuple [.bool x.1, .int .i64 x.2]
set_option maxHeartbeats 1600000 in
set_option maxRecDepth 100000 in
theorem permits_calls (Γ : Nat → Option (List AV)) (hΓ : Γ 0 = some kindsC) (p : Pol) (kind value : Int) (hs : List (List Hd)) (who : List Int) (h : AH) (hp : ShP p) (hsz : ∀ x ∈ exprs p, sizeX x ≤ 1000) (hrl : p.rules.length ≤ 1000000) (S : Szs hs who) :
    ACalls Tryz.prog Γ 17 [encPol p, .int .i64 kind, .int .i64 value, .sl (encHl hs) .free, .sl (encI who) .free] h fun w h' => h' = h ∧ w = encB2 (permF p kind value hs who) := by
  have c1 := fun h => pcheck_calls Γ hΓ p h hp hsz hrl
  have c2 := fun h => pright_calls Γ hs p.offices.length h S.n S.l
  have c3 := fun h => people_calls Γ who h (by have := S.w; omega)
  have c4 := fun H o u ho x hx => fulfil_calls Γ value hs who H o u ho x hx
  simp only [FulC, encQ, qC] at c4
  have hk := hp.kinds
  have ho := hp.offices
  refine ACalls.drop ?_
  rw [encPol_eq] at *
  refine acalls_code (rs := [.tmp 10, .tmp 11]) Tryz.func17 rfl rfl rfl rfl Ty.mixed (by kernel_rfl) ?_
  simp (disch := omega) only [go_sem, seval]
  refine ACalls.det (c1 _) ?_
  simp (disch := omega) only [go_sem, seval]
  have hd : permF p kind value hs who = if checkF p ≠ 0 then (false, checkF p) else if kind < 0 ∨ (p.kinds.length : Int) ≤ kind ∨ value < 0 ∨ 1099511627776 < value then (false, 1) else if holdersF hs p.offices.length = false then (false, 210) else if peopleF who = false then (false, 1) else (((p.rules[kind.toNat]?).map fun r => fulF value hs who r.x).getD false, 0) := rfl
  refine aIf.intro (fun h1 => ?_) (fun h1 => ?_) <;> simp (disch := omega) only [go_sem, seval]
  rotate_left
  · rw [hd, if_pos h1]; rfl
  rw [if_neg (by simpa using h1)] at hd
  refine aIf.intro (fun h2 => ?_) (fun h2 => ?_) <;> simp (disch := omega) only [go_sem, seval, encT_len]
  · rw [hd, if_pos (by omega)]; rfl
  refine aIf.intro (fun h3 => ?_) (fun h3 => ?_) <;> simp (disch := omega) only [go_sem, seval, encT_len]
  · rw [hd, if_pos (by omega)]; rfl
  refine aIf.intro (fun h4 => ?_) (fun h4 => ?_) <;> simp (disch := omega) only [go_sem, seval, encT_len]
  · rw [hd, if_pos (by omega)]; rfl
  refine aIf.intro (fun h5 => ?_) (fun h5 => ?_) <;> simp (disch := omega) only [go_sem, seval, encT_len]
  · rw [hd, if_pos (by omega)]; rfl
  rw [if_neg (by omega)] at hd
  refine ACalls.det (c2 _) ?_
  simp (disch := omega) only [go_sem, seval]
  cases h6 : holdersF hs p.offices.length <;> rw [h6] at hd <;> simp (disch := omega) only [go_sem, seval]
  · rw [hd]; rfl
  refine ACalls.det (c3 _) ?_
  simp (disch := omega) only [go_sem, seval]
  cases h7 : peopleF who <;> rw [h7] at hd <;> simp (disch := omega) only [go_sem, seval]
  · rw [hd]; rfl
  obtain ⟨H, hn⟩ := hd_ok h6 h7
  have hck : checkF p = 0 := h1
  have hlen := check_lens hck
  obtain ⟨r, hr⟩ : ∃ r, p.rules[kind.toNat]? = some r := ⟨_, List.getElem?_eq_getElem (by omega)⟩
  have hrm : r ∈ p.rules := List.mem_of_getElem? hr
  have c5 := c4 H p.offices true (by omega) r.x (check_rule hck hrm).1
  have e1 : (p.rules.map encRl)[kind.toNat]? = some (encRl r) := by rw [List.getElem?_map, hr]; rfl
  rw [encX_eq] at c5
  rw [encRl_eq] at e1
  rw [hr] at hd
  refine ⟨by omega, ?_⟩
  rw [e1]
  simp (disch := omega) only [go_sem, seval]
  refine ACalls.det (c5 _) ?_
  simp (disch := omega) only [go_sem, seval]
  rw [hd]; rfl
set_option maxHeartbeats 1600000 in
set_option maxRecDepth 100000 in
theorem changes_calls (Γ : Nat → Option (List AV)) (hΓ : Γ 0 = some kindsC) (p : Pol) (hs : List (List Hd)) (who : List Int) (h : AH) (hp : ShP p) (hsz : ∀ x ∈ exprs p, sizeX x ≤ 1000) (hrl : p.rules.length ≤ 1000000) (S : Szs hs who) :
    ACalls Tryz.prog Γ 25 [encPol p, .sl (encHl hs) .free, .sl (encI who) .free] h fun w h' => h' = h ∧ w = encB2 (changeF p hs who) := by
  have c1 := fun h => pcheck_calls Γ hΓ p h hp hsz hrl
  have c2 := fun h => pright_calls Γ hs p.offices.length h S.n S.l
  have c3 := fun h => people_calls Γ who h (by have := S.w; omega)
  have c4 := fun H o u ho x hx => fulfil_calls Γ 0 hs who H o u ho x hx
  simp only [FulC, encQ, qC] at c4
  have ho := hp.offices
  refine ACalls.drop ?_
  rw [encPol_eq] at *
  refine acalls_code (rs := [.tmp 6, .tmp 7]) Tryz.func25 rfl rfl rfl rfl Ty.mixed (by kernel_rfl) ?_
  simp (disch := omega) only [go_sem, seval]
  refine ACalls.det (c1 _) ?_
  simp (disch := omega) only [go_sem, seval]
  have hd : changeF p hs who = if checkF p ≠ 0 then (false, checkF p) else if holdersF hs p.offices.length = false then (false, 210) else if peopleF who = false then (false, 1) else (fulF 0 hs who p.change, 0) := rfl
  refine aIf.intro (fun h1 => ?_) (fun h1 => ?_) <;> simp (disch := omega) only [go_sem, seval, encT_len]
  rotate_left
  · rw [hd, if_pos h1]; rfl
  rw [if_neg (by simpa using h1)] at hd
  refine ACalls.det (c2 _) ?_
  simp (disch := omega) only [go_sem, seval]
  cases h6 : holdersF hs p.offices.length <;> rw [h6] at hd <;> simp (disch := omega) only [go_sem, seval]
  · rw [hd]; rfl
  refine ACalls.det (c3 _) ?_
  simp (disch := omega) only [go_sem, seval]
  cases h7 : peopleF who <;> rw [h7] at hd <;> simp (disch := omega) only [go_sem, seval]
  · rw [hd]; rfl
  obtain ⟨H, hn⟩ := hd_ok h6 h7
  have hck : checkF p = 0 := h1
  have c5 := c4 H p.offices false (by omega) p.change (check_change hck).1
  rw [encX_eq] at c5
  refine ACalls.det (c5 _) ?_
  simp (disch := omega) only [go_sem, seval]
  rw [hd]; rfl
end Go.Proofs.YtplllkjobpjaoaaGreatDoor
