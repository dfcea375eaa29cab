/- Texts joined: AbsU, AbsV. No conditions. -/
import Derived.Test.YtlgamlamolfnlaaGreatMrG
/- Regions that draw their order, but end in a fixed one. It says nothing of any program; no conditions. -/
set_option linter.unusedSimpArgs false
set_option linter.unusedVariables false
namespace Go.Abs
open Go Go.RowKit

/-- From p on, an operation comes behind all that stand before it. -/
def sufOK (p : Nat) (ops : Array Oper) : Bool := (List.range ops.size).all fun i => Nat.blt i p || (List.range i).all fun j => ((Region.before ops).getD i 0).testBit j
def sufK (P : Program) (Γ : Nat → Option (List AV)) (p : Nat) (ops : Array Oper) (K : Tm → AH → Prop) (σ : Tm) (h : AH) : Prop := ∃ σ3, Eqv σ σ3 ∧ aOps P Γ ops.toList K (((List.range ops.size).filter fun i => !Nat.blt i p).filterMap (ops[·]?)) σ3 h
theorem sufOK_at {p : Nat} {ops : Array Oper} (hS : sufOK p ops = true) {i j : Nat} (hi : i < ops.size) (hp : p ≤ i) (hj : j < i) : ((Region.before ops).getD i 0).testBit j = true := by
  have h1 := List.all_eq_true.1 hS i (List.mem_range.2 hi)
  rcases Bool.or_eq_true_iff.1 h1 with h | h
  · have : i < p := Nat.le_of_ble_eq_true h
    omega
  · exact List.all_eq_true.1 h j (List.mem_range.2 hj)

section
variable {P : Program} {Γ : Nat → Option (List AV)} {G : Gh} {h : AH} {w : World} {N : Nat} {σ σ' : Tm} {Q : Exit → Tm → AH → Prop} {ops : Array Oper}

theorem suf_ok {p : Nat} (hd : drawOK ops = true) (hS : sufOK p ops = true) (hN : dstOK N ops = true) {K : Tm → AH → Prop} {G0 : Gh} {ds : List Deferred} {r : Option Nat} :
    ∀ (fuel : Nat) (listed : Array Bool) (a : Act) (w : World) (G : Gh) (σ : Tm) (h : AH), listed.size = ops.size → ClosedL ops listed → (rem ops listed).length ≤ fuel → (∀ i ∈ rem ops listed, p ≤ i) → G0.le G → Inv Γ G h w → TR N G σ a.tmps → a.defers = ds →
      aOps P Γ ops.toList K ((rem ops listed).filterMap (ops[·]?)) σ h → wpAnyIn (Fr r) 0 P .any ops (Post Γ N G0 ds (thenA K fun _ _ _ => False)) fuel listed a w := by
  have hdst : ∀ (i : Nat) (o : Oper), ops[i]? = some o → ∀ x, o.dst = some x → x < N := fun i o ho x hx => by
    have := List.all_eq_true.1 hN o (by simpa using Array.mem_of_getElem? ho)
    rw [hx] at this
    exact Nat.le_of_ble_eq_true this
  have hrr : ∀ {listed : Array Bool} {i : Nat}, listed.size = ops.size → i ∈ Region.ready .any ops listed → i ∈ rem ops listed := fun hs hi => by
    obtain ⟨h0, o, ho, _⟩ := mem_ready.1 hi
    exact mem_rem.2 ⟨(Array.getElem?_eq_some_iff.1 ho).1, h0⟩
  have hleast : ∀ {listed : Array Bool}, listed.size = ops.size → rem ops listed ≠ [] → Region.ready .any ops listed ≠ [] := fun {listed} hs hne hr => by
    cases hl : rem ops listed with
    | nil => exact hne hl
    | cons m L =>
      obtain ⟨hm1, hm2⟩ := mem_rem.1 (show m ∈ rem ops listed by rw [hl]; exact List.mem_cons_self ..)
      have hmin : ∀ j ∈ rem ops listed, m ≤ j := fun j hj => by
        have hp := rem_lt (ops := ops) listed
        rw [hl] at hp hj
        rcases List.mem_cons.1 hj with rfl | hj
        · exact Nat.le_refl _
        · exact Nat.le_of_lt ((List.pairwise_cons.1 hp).1 j hj)
      have : m ∈ Region.ready .any ops listed := mem_ready.2 ⟨hm2, ops[m], Array.getElem?_eq_getElem hm1, fun e he hb => by
        have hlt := (drawOK_at hd (Array.getElem?_eq_getElem hm1)).2.1 e he hb
        rw [getD_ff (by rw [hs]; omega)]
        cases hx : listed.getD e.on true with
        | true => rfl
        | false => have := hmin e.on (mem_rem.2 ⟨by omega, hx⟩); omega⟩
      rw [hr] at this; cases this
  have done : ∀ (listed : Array Bool) (a : Act) (w : World) (G : Gh) (σ : Tm) (h : AH), rem ops listed = [] → G0.le G → Inv Γ G h w → TR N G σ a.tmps → a.defers = ds →
      aOps P Γ ops.toList K ((rem ops listed).filterMap (ops[·]?)) σ h → Post Γ N G0 ds (thenA K fun _ _ _ => False) .normal a w := fun listed a w G σ h hr hle hI ht had H => by
    rw [hr] at H
    exact ⟨G, σ, h, [], hle, hI, ht, by simpa using had, fun D hD => by simp at hD, List.nodup_nil, H⟩
  intro fuel
  induction fuel with
  | zero =>
    intro listed a w G σ h hs hc hf hsuf hle hI ht had H
    have hr : rem ops listed = [] := List.length_eq_zero_iff.1 (by omega)
    refine ⟨?_, done listed a w G σ h hr hle hI ht had H⟩
    cases hx : Region.ready .any ops listed with
    | nil => rfl
    | cons i _ => have := hrr hs (show i ∈ Region.ready .any ops listed by rw [hx]; exact List.mem_cons_self ..); rw [hr] at this; cases this
  | succ fuel ih =>
    intro listed a w G σ h hs hc hf hsuf hle hI ht had H
    refine ⟨fun hr => done listed a w G σ h ?_ hle hI ht had H, fun i hi => ?_⟩
    · exact Classical.byContradiction fun hne => hleast hs hne hr
    · have him := hrr hs hi
      obtain ⟨hi0, o, ho, hedges⟩ := mem_ready.1 hi
      obtain ⟨L1, L2, e1, e2, e3⟩ := rem_set hs him
      obtain ⟨hb1, hb2, hb3⟩ := drawOK_at hd ho
      have hil : i < ops.size := (Array.getElem?_eq_some_iff.1 ho).1
      have hpre : ∀ j, j < ops.size → ((Region.before ops).getD i 0).testBit j = true → listed.getD j true = true := fun j hj hbit => by
        rw [hb1] at hbit
        rcases foldB_aux _ j _ _ hbit with h0 | ⟨e, he, hbd, hor⟩
        · simp at h0
        · have hel := hedges e (by simpa using he) hbd
          have helt := hb2 e (by simpa using he) hbd
          rw [getD_ff (by omega)] at hel
          rcases hor with rfl | hor
          · exact hel
          · exact hc e.on (by omega) hel j hj hor
      have hc' : ClosedL ops (listed.setIfInBounds i true) := fun k hk hkl j hj hbit => by
        by_cases hji : j = i
        · subst hji; exact getD_set_self (by omega) _
        · rw [getD_set_other (fun e => hji e.symm)]
          by_cases hki : k = i
          · subst hki; exact hpre j hj hbit
          · rw [getD_set_other (fun e => hki e.symm)] at hkl
            exact hc k hk hkl j hj hbit
      have hL1 : L1 = [] := by
        cases L1 with
        | nil => rfl
        | cons j L1 =>
          obtain ⟨j1, j2⟩ := e3 j (List.mem_cons_self ..)
          rw [hpre j (by omega) (sufOK_at hS hil (hsuf i him) j1)] at j2; cases j2
      subst hL1
      rw [List.nil_append] at e1 e2
      rw [e1, List.filterMap_cons, ho] at H
      simp only at H
      rw [← e2] at H
      have hf' : (rem ops (listed.setIfInBounds i true)).length ≤ fuel := by rw [e1] at hf; rw [e2]; simp at hf ⊢; omega
      have hsuf' : ∀ k ∈ rem ops (listed.setIfInBounds i true), p ≤ k := fun k hk => hsuf k (by rw [e1]; rw [e2] at hk; exact List.mem_cons_of_mem _ hk)
      have hdo := hdst i o ho
      unfold wpOpIn
      simp only [ho]
      have run : ∀ σ, TR N G σ a.tmps → aOper P Γ o (fun v σ h => aOps P Γ ops.toList K ((rem ops (listed.setIfInBounds i true)).filterMap (ops[·]?)) (put o.dst v σ) h) σ h → o.wpIn (Fr r) 0 P a w (wpAnyIn (Fr r) 0 P .any ops (Post Γ N G0 ds (thenA K fun _ _ _ => False)) fuel (listed.setIfInBounds i true)) (Post Γ N G0 ds (thenA K fun _ _ _ => False)) := fun σ ht H =>
        aOper_ok hI ht H fun u v G' h' w' h1 h2 h3 h4 => by
          exact ih _ _ w' G' _ h' (by simpa using hs) hc' hf' hsuf' (hle.trans h1) h2 ((ht.mono h1).put hdo h3) ((put_defers a o.dst u).trans had) h4
      have pass : ∀ σ, TR N G σ a.tmps → aOps P Γ ops.toList K ((rem ops (listed.setIfInBounds i true)).filterMap (ops[·]?)) (put o.dst (.tuple []) σ) h → (∀ f, o.about P w a.eval = some f → (Fr r).fn f) ∧ wpAnyIn (Fr r) 0 P .any ops (Post Γ N G0 ds (thenA K fun _ _ _ => False)) fuel (listed.setIfInBounds i true) (a.put o.dst undef) w := fun σ ht H =>
        ⟨fun _ _ => trivial, ih _ _ w G _ h (by simpa using hs) hc' hf' hsuf' hle hI (ht.put hdo (VR.undef G)) ((put_defers a o.dst undef).trans had) H⟩
      simp only [aOps] at H
      unfold Region.wanted
      split at H
      · rename_i hg
        simp only [hg, if_true]
        exact run σ ht H
      · rename_i j want hg
        simp only [hg]
        unfold aDst at H
        split at H
        · rename_i t hj
          rw [dstAt_eq, Array.getElem?_toList] at hj
          rcases aBoolG_inv H with ⟨b, hb, H1, H2⟩ | ⟨hb, H⟩
          · rw [yielded_ok ht hj hb]
            by_cases hbw : b = want
            · subst hbw; simp only [beq_self_eq_true, if_true]; exact run _ (ht.same hb) (H1 rfl)
            · have : (some b == some want) = false := by cases b <;> cases want <;> simp_all
              simp only [this, Bool.false_eq_true, if_false]
              have hbn : b = !want := by cases b <;> cases want <;> simp_all
              exact pass _ (ht.same (hb.trans (by rw [hbn]))) (H2 hbn)
          · rw [yielded_none ht hj hb]
            have : ((none : Option Bool) == some want) = false := rfl
            simp only [this, Bool.false_eq_true, if_false]
            exact pass _ ht H
        · exact H.elim
theorem anyS_ok {p : Nat} (hd : drawOK ops = true) (hS : sufOK p ops = true) (hN : dstOK N ops = true) {K : Tm → AH → Prop} {G0 : Gh} {ds : List Deferred} {r : Option Nat} :
    ∀ (fuel : Nat) (listed : Array Bool) (a : Act) (w : World) (G : Gh) (σ : Tm) (h : AH), listed.size = ops.size → ClosedL ops listed → (rem ops listed).length ≤ fuel → G0.le G → Inv Γ G h w → TR N G σ a.tmps → a.defers = ds → Sep σ (seps ops.toList) → (∀ i, p ≤ i → i < ops.size → listed.getD i true = false) →
      (∃ m, Seq1 P Γ ops.toList m h (((rem ops listed).filter (Nat.blt · p)).filterMap (ops[·]?)) σ (sufK P Γ p ops K)) → wpAnyIn (Fr r) 0 P .any ops (Post Γ N G0 ds (thenA K fun _ _ _ => False)) fuel listed a w := by
  have hdst : ∀ (i : Nat) (o : Oper), ops[i]? = some o → ∀ x, o.dst = some x → x < N := fun i o ho x hx => by
    have := List.all_eq_true.1 hN o (by simpa using Array.mem_of_getElem? ho)
    rw [hx] at this
    exact Nat.le_of_ble_eq_true this
  have hrr : ∀ {listed : Array Bool} {i : Nat}, listed.size = ops.size → i ∈ Region.ready .any ops listed → i ∈ rem ops listed := fun hs hi => by
    obtain ⟨h0, o, ho, _⟩ := mem_ready.1 hi
    exact mem_rem.2 ⟨(Array.getElem?_eq_some_iff.1 ho).1, h0⟩
  have hleast : ∀ {listed : Array Bool}, listed.size = ops.size → rem ops listed ≠ [] → Region.ready .any ops listed ≠ [] := fun {listed} hs hne hr => by
    cases hl : rem ops listed with
    | nil => exact hne hl
    | cons m L =>
      obtain ⟨hm1, hm2⟩ := mem_rem.1 (show m ∈ rem ops listed by rw [hl]; exact List.mem_cons_self ..)
      have hmin : ∀ j ∈ rem ops listed, m ≤ j := fun j hj => by
        have hp := rem_lt (ops := ops) listed
        rw [hl] at hp hj
        rcases List.mem_cons.1 hj with rfl | hj
        · exact Nat.le_refl _
        · exact Nat.le_of_lt ((List.pairwise_cons.1 hp).1 j hj)
      have : m ∈ Region.ready .any ops listed := mem_ready.2 ⟨hm2, ops[m], Array.getElem?_eq_getElem hm1, fun e he hb => by
        have hlt := (drawOK_at hd (Array.getElem?_eq_getElem hm1)).2.1 e he hb
        rw [getD_ff (by rw [hs]; omega)]
        cases hx : listed.getD e.on true with
        | true => rfl
        | false => have := hmin e.on (mem_rem.2 ⟨by omega, hx⟩); omega⟩
      rw [hr] at this; cases this
  have last : ∀ (fuel : Nat) (listed : Array Bool) (a : Act) (w : World) (G : Gh) (σ : Tm) (h : AH), listed.size = ops.size → ClosedL ops listed → (rem ops listed).length ≤ fuel → G0.le G → Inv Γ G h w → TR N G σ a.tmps → a.defers = ds → (∀ i, p ≤ i → i < ops.size → listed.getD i true = false) →
      (rem ops listed).filter (Nat.blt · p) = [] → sufK P Γ p ops K σ h → wpAnyIn (Fr r) 0 P .any ops (Post Γ N G0 ds (thenA K fun _ _ _ => False)) fuel listed a w := fun fuel listed a w G σ h hs hc hf hle hI ht had hU hr H => by
    obtain ⟨σ3, k1, k2⟩ := H
    have hge : ∀ i ∈ rem ops listed, p ≤ i := fun i hi => by
      have := List.filter_eq_nil_iff.1 hr i hi
      refine Classical.byContradiction fun hn => this ?_
      exact Nat.ble_eq_true_of_le (by omega)
    have hrem : rem ops listed = (List.range ops.size).filter fun i => !Nat.blt i p := by
      unfold rem
      refine List.filter_congr fun i hi => ?_
      rw [List.mem_range] at hi
      by_cases hp : p ≤ i
      · rw [hU i hp hi]
        have : Nat.blt i p = false := by
          cases hb : Nat.blt i p with
          | false => rfl
          | true => have : i < p := Nat.le_of_ble_eq_true hb; omega
        rw [this]
      · have h1 : listed.getD i true = true := by
          cases hx : listed.getD i true with
          | true => rfl
          | false => have := hge i (mem_rem.2 ⟨hi, hx⟩); omega
        have : Nat.blt i p = true := Nat.ble_eq_true_of_le (by omega)
        rw [h1, this]
    refine suf_ok hd hS hN fuel listed a w G σ3 h hs hc hf hge hle hI ⟨ht.1, fun i => by rw [← k1 i]; exact ht.2 i⟩ had ?_
    rw [hrem]
    exact k2
  intro fuel
  induction fuel with
  | zero =>
    intro listed a w G σ h hs hc hf hle hI ht had hsp hU H
    have hr : rem ops listed = [] := List.length_eq_zero_iff.1 (by omega)
    obtain ⟨m, H⟩ := H
    refine last 0 listed a w G σ h hs hc hf hle hI ht had hU (by rw [hr]; rfl) ?_
    rw [hr] at H
    exact H
  | succ fuel ih =>
    intro listed a w G σ h hs hc hf hle hI ht had hsp hU H
    by_cases hpr : (rem ops listed).filter (Nat.blt · p) = []
    · obtain ⟨m, H⟩ := H
      rw [hpr] at H
      exact last (fuel + 1) listed a w G σ h hs hc hf hle hI ht had hU hpr H
    obtain ⟨q, hq⟩ := List.exists_mem_of_ne_nil _ hpr
    obtain ⟨hq1, hq2⟩ := List.mem_filter.1 hq
    have hq2 : q < p := Nat.le_of_ble_eq_true hq2
    refine ⟨fun hr => ?_, fun i hi => ?_⟩
    · exact absurd hr (hleast hs fun e => by rw [e] at hq1; simp at hq1)
    · have him := hrr hs hi
      obtain ⟨hi0, o, ho, hedges⟩ := mem_ready.1 hi
      obtain ⟨L1, L2, e1, e2, e3⟩ := rem_set hs him
      obtain ⟨hb1, hb2, hb3⟩ := drawOK_at hd ho
      have hil : i < ops.size := (Array.getElem?_eq_some_iff.1 ho).1
      have hpre : ∀ j, j < ops.size → ((Region.before ops).getD i 0).testBit j = true → listed.getD j true = true := fun j hj hbit => by
        rw [hb1] at hbit
        rcases foldB_aux _ j _ _ hbit with h0 | ⟨e, he, hbd, hor⟩
        · simp at h0
        · have hel := hedges e (by simpa using he) hbd
          have helt := hb2 e (by simpa using he) hbd
          rw [getD_ff (by omega)] at hel
          rcases hor with rfl | hor
          · exact hel
          · exact hc e.on (by omega) hel j hj hor
      have hc' : ClosedL ops (listed.setIfInBounds i true) := fun k hk hkl j hj hbit => by
        by_cases hji : j = i
        · subst hji; exact getD_set_self (by omega) _
        · rw [getD_set_other (fun e => hji e.symm)]
          by_cases hki : k = i
          · subst hki; exact hpre j hj hbit
          · rw [getD_set_other (fun e => hki e.symm)] at hkl
            exact hc k hk hkl j hj hbit
      have hip : i < p := by
        refine Classical.byContradiction fun hn => ?_
        have := hpre q (mem_rem.1 hq1).1 (sufOK_at hS hil (by omega) (by omega))
        rw [(mem_rem.1 hq1).2] at this; cases this
      have hbi : Nat.blt i p = true := Nat.ble_eq_true_of_le hip
      obtain ⟨m, H⟩ := H
      rw [e1, List.filter_append, List.filter_cons_of_pos (p := fun x => Nat.blt x p) hbi, List.filterMap_append, List.filterMap_cons, ho] at H
      simp only at H
      have hap : ∀ x ∈ (L1.filter (Nat.blt · p)).filterMap (ops[·]?), apart1 ops.toList o x = true ∧ x ∈ ops.toList := fun x hx => by
        obtain ⟨j, hj, hjx⟩ := List.mem_filterMap.1 hx
        obtain ⟨j1, j2⟩ := e3 j (List.mem_filter.1 hj).1
        refine ⟨?_, by simpa using Array.mem_of_getElem? hjx⟩
        refine hb3 j x j1 hjx ?_
        cases hbit : ((Region.before ops).getD i 0).testBit j with
        | false => rfl
        | true => rw [hpre j (by omega) hbit] at j2; cases j2
      have hU' : ∀ k, p ≤ k → k < ops.size → (listed.setIfInBounds i true).getD k true = false := fun k h1 h2 => by
        rw [getD_set_other (by omega)]; exact hU k h1 h2
      obtain ⟨v, h2, s1, _, s2⟩ := Seq1.pull _ _ _ _ hap hsp H
      have s3 := Seq1.mono (K' := sufK P Γ p ops K) _ _ _ _ (fun σ h (k : ∃ σ', Eqv σ σ' ∧ sufK P Γ p ops K σ' h) => by obtain ⟨σ', k1, σ3, k2, k3⟩ := k; exact ⟨σ3, fun i => (k1 i).trans (k2 i), k3⟩) s2
      rw [← List.filterMap_append, ← List.filter_append, ← e2] at s3
      have hf' : (rem ops (listed.setIfInBounds i true)).length ≤ fuel := by rw [e1] at hf; rw [e2]; simp at hf ⊢; omega
      have hdo := hdst i o ho
      have hsp' : ∀ v', Sep (put o.dst v' σ) (seps ops.toList) := fun v' => hsp.put (by simpa using Array.mem_of_getElem? ho)
      unfold wpOpIn
      simp only [ho]
      have run : DetV P Γ o σ h v h2 → o.wpIn (Fr r) 0 P a w (wpAnyIn (Fr r) 0 P .any ops (Post Γ N G0 ds (thenA K fun _ _ _ => False)) fuel (listed.setIfInBounds i true)) (Post Γ N G0 ds (thenA K fun _ _ _ => False)) := fun H =>
        aOper0_ok hI ht H fun u v' G' h' w' k1 k2 k3 k4 => by
          obtain ⟨rfl, rfl⟩ := k4
          exact ih _ _ w' G' _ _ (by simpa using hs) hc' hf' (hle.trans k1) k2 ((ht.mono k1).put hdo k3) ((put_defers a o.dst u).trans had) (hsp' _) hU' ⟨m, s3⟩
      by_cases hal : isAl o = true
      · obtain ⟨ha1, ha2⟩ := isAl_al hal
        unfold Region.wanted
        simp only [ha2, if_true]
        exact (s1.al hal).ok hI ht ha1 fun u G' w' k1 k2 k3 =>
          ih _ _ w' G' _ _ (by simpa using hs) hc' hf' (hle.trans k1) k2 ((ht.mono k1).put hdo k3) ((put_defers a o.dst u).trans had) (hsp' _) hU' ⟨m, s3⟩
      have s1 := s1.no hal
      unfold Step1 at s1
      unfold Region.wanted
      split at s1
      · rename_i hg
        simp only [hg, if_true]
        exact run s1
      · rename_i j want hg
        simp only [hg]
        obtain ⟨t, b, hj, hb, hor⟩ := s1
        rw [dstAt_eq, Array.getElem?_toList] at hj
        rw [yielded_gv ht hj hb]
        rcases hor with ⟨rfl, hv⟩ | ⟨hbn, rfl, rfl⟩
        · simp only [beq_self_eq_true, if_true]; exact run hv
        · have : (b == some want) = false := by simpa using hbn
          simp only [this, Bool.false_eq_true, if_false]
          exact ⟨fun _ _ => trivial, ih _ _ w G _ _ (by simpa using hs) hc' hf' hle hI (ht.put hdo (VR.undef G)) ((put_defers a o.dst undef).trans had) (hsp' _) hU' ⟨m, s3⟩⟩


theorem fm_take {α : Type} : ∀ (l : List α) (p : Nat), ((List.range l.length).filter (Nat.blt · p)).filterMap (l[·]?) = l.take p
  | [], p => by simp
  | x :: l, 0 => by
    have : ∀ i, Nat.blt i 0 = false := fun i => by cases hb : Nat.blt i 0 with
      | false => rfl
      | true => have : i < 0 := Nat.le_of_ble_eq_true hb; omega
    simp [this]
  | x :: l, p + 1 => by
    have h0 : Nat.blt 0 (p + 1) = true := Nat.ble_eq_true_of_le (by omega)
    have hs : ∀ i, Nat.blt (i + 1) (p + 1) = Nat.blt i p := fun i => rfl
    rw [List.length_cons, List.range_succ_eq_map, List.filter_cons_of_pos (p := fun x => Nat.blt x (p + 1)) h0, List.filterMap_cons, List.filter_map, List.filterMap_map]
    simp only [List.getElem?_cons_zero, List.take_succ_cons]
    congr 1
    rw [← fm_take l p]
    rfl
theorem fm_drop {α : Type} : ∀ (l : List α) (p : Nat), ((List.range l.length).filter fun i => !Nat.blt i p).filterMap (l[·]?) = l.drop p
  | [], p => by simp
  | x :: l, 0 => by
    have : ∀ i, Nat.blt i 0 = false := fun i => by cases hb : Nat.blt i 0 with
      | false => rfl
      | true => have : i < 0 := Nat.le_of_ble_eq_true hb; omega
    have e : (List.range (x :: l).length).filter (fun i => !Nat.blt i 0) = List.range (x :: l).length := List.filter_eq_self.2 fun i _ => by rw [this]; rfl
    rw [e, List.drop_zero]
    exact filterMap_idx _
  | x :: l, p + 1 => by
    have h1 : Nat.blt 0 (p + 1) = true := Nat.ble_eq_true_of_le (by omega)
    have h0 : ¬ (!Nat.blt 0 (p + 1)) = true := by rw [h1]; decide
    rw [List.length_cons, List.range_succ_eq_map, List.filter_cons_of_neg (p := fun x => !Nat.blt x (p + 1)) h0, List.filter_map, List.filterMap_map, List.drop_succ_cons, ← fm_drop l p]
    rfl
/-- **A region that draws its order, its end being in a fixed order** (from p on: calls of any kind may stand there). -/
theorem awp_drawS {id : Nat} (p : Nat) (hS : sufOK p ops = true) (hm : P.follows .mixedOrders = true) (hd : drawOK ops = true) (hN : dstOK N ops = true) (hsp : Sep σ (seps ops.toList)) (H : aDets P Γ ops.toList (fun σ h => aOps P Γ ops.toList (fun σ h => Q .normal σ h) (ops.toList.drop p) σ h) (ops.toList.take p) σ h) : AWP P Γ N (.region id ops true) Q σ h := fun r G w a hr hI ht => by
  have hs := aDets_seq _ 0 _ σ σ (Nat.zero_le _) (fun _ => rfl) H
  have e1 := fm_take ops.toList p
  have e2 := fm_drop ops.toList p
  rw [Array.length_toList] at e1 e2
  simp only [Array.getElem?_toList] at e1 e2
  refine wpIn_mono (Q := Post Γ N G a.defers (thenA (fun σ h => Q .normal σ h) fun _ _ _ => False)) ?_ fun e a' w' hp => ?_
  · refine wpIn_region_any hm (anyS_ok (K := fun σ h => Q .normal σ h) hd hS hN ops.size _ a _ G σ h (by simp) (fun i hi hl => ?_) ?_ (Gh.le.refl G) ?_ ht rfl hsp (fun i _ hi => ?_) ?_)
    · simp [Array.getD_eq_getD_getElem?, hi] at hl
    · rw [rem_all]; simp
    · exact hI.later (Nat.le_refl _) rfl rfl rfl (fun _ _ => rfl)
    · simp [Array.getD_eq_getD_getElem?, hi]
    · refine ⟨0, ?_⟩
      rw [rem_all, e1]
      refine Seq1.mono _ _ _ _ (fun σ h k => ?_) hs
      obtain ⟨σ3, k1, k2⟩ := k
      exact ⟨σ3, k1, by rw [e2]; exact k2⟩
  · refine hp.mono fun e σ h hq => ?_
    cases e <;> first | exact hq | exact hq.elim
end
end Go.Abs

/- Loops and functions whose code is run part by part; who consumes what a function yields. It says nothing of any program; no conditions. -/
set_option linter.unusedSimpArgs false
set_option linter.unusedVariables false
namespace Go.Abs
open Go Go.RowKit
section
variable {P : Program} {Γ : Nat → Option (List AV)} {h : AH} {N : Nat} {σ : Tm} {Q : Exit → Tm → AH → Prop}
/-- A loop over a list's elements, its rounds' code being left. -/
theorem awp_loopLW {α β : Type} {c : Code} (xs : List α) (L : List Nat) (st : List α → β → Tm) (hp : β → AH) (inv : List α → List α → β → Prop) (b0 : β) (h1 : keep L σ = st [] b0) (h2 : h = hp b0) (h3 : inv [] xs b0)
    (H1 : ∀ don x r b, xs = don ++ x :: r → inv don (x :: r) b → AWP P Γ N c (roundL L st hp inv don x r Q) (st don b) (hp b))
    (H0 : ∀ b, inv xs [] b → AWP P Γ N c (roundZ Q) (st xs b) (hp b)) : AWP P Γ N (.loop c) Q σ h := by
  refine awp_loop (fun n σ h => ∃ don rest b, n = rest.length ∧ xs = don ++ rest ∧ inv don rest b ∧ Wkt (keep L σ) (st don b) ∧ h = hp b) ⟨[], xs, b0, rfl, rfl, h3, .of_eq h1, h2⟩ fun n σ h hx => ?_
  obtain ⟨don, rest, b, rfl, hxs, hi, hs, rfl⟩ := hx
  refine AWP.keep L (AWP.wks ?_ hs)
  cases rest with
  | nil =>
    rw [List.append_nil] at hxs
    subst hxs
    refine (H0 b hi).mono fun e σ h he => ?_
    cases e with
    | normal => exact he.elim
    | _ => exact he
  | cons x r =>
    refine (H1 don x r b hxs hi).mono fun e σ h he => ?_
    cases e with
    | normal =>
      obtain ⟨b', k1, k2, k3⟩ := he
      exact ⟨r.length, by simp, don ++ [x], r, b', rfl, by simp [hxs], k1, k2, k3⟩
    | _ => exact he
end
/-! ### Who consumes what a function yields -/
def AV.isFn : AV → Bool
  | .func .. => true
  | .yield _ => true
  | _ => false
/-- What is left of the objects from b on. -/
structure Kept (b : Nat) (h h' : AH) : Prop where
  len : h.length ≤ h'.length
  fn : ∀ (i : Nat) (c : AV) (T : TypeId), b ≤ i → c.isFn = true → h[i]? = some (.row [c] T) → h'[i]? = some (.row [c] T)
  lp : ∀ (i : Nat) (st : LoopState) (pe : Option Code) (li : LI), b ≤ i → (h[i]? = some (.loop st pe li) ↔ h'[i]? = some (.loop st pe li))
  old : ∀ (i : Nat) (st : LoopState) (pe : Option Code) (li : LI), h'[i]? = some (.loop st pe li) → ∃ st0 pe0 li0, h[i]? = some (.loop st0 pe0 li0)
theorem Kept.refl (b : Nat) (h : AH) : Kept b h h := ⟨Nat.le_refl _, fun _ _ _ _ _ e => e, fun _ _ _ _ _ => Iff.rfl, fun _ _ _ _ e => ⟨_, _, _, e⟩⟩
theorem Kept.trans {b : Nat} {h h1 h2 : AH} (x : Kept b h h1) (y : Kept b h1 h2) : Kept b h h2 :=
  ⟨Nat.le_trans x.len y.len, fun i c T hb hf e => y.fn i c T hb hf (x.fn i c T hb hf e), fun i st pe li hb => (x.lp i st pe li hb).trans (y.lp i st pe li hb), fun i st pe li e => by obtain ⟨a, b, c, e⟩ := y.old i st pe li e; exact x.old i a b c e⟩
def NoLoop (j : AH) : Prop := ∀ ob ∈ j, ∀ st pe li, ob ≠ .loop st pe li
theorem Kept.app (b : Nat) (h : AH) {l : AH} (hl : NoLoop l) : Kept b h (h ++ l) :=
  ⟨by simp, fun i c T _ _ e => by rw [List.getElem?_append_left (List.getElem?_eq_some_iff.1 e).1]; exact e, fun i st pe li _ => by
    by_cases hi : i < h.length
    · rw [List.getElem?_append_left hi]
    · rw [List.getElem?_eq_none (by omega), List.getElem?_append_right (by omega)]
      constructor
      · intro e; cases e
      · intro e; exact absurd rfl (hl _ (List.mem_of_getElem? e) st pe li), fun i st pe li e => by
    by_cases hi : i < h.length
    · rw [List.getElem?_append_left hi] at e; exact ⟨_, _, _, e⟩
    · rw [List.getElem?_append_right (by omega)] at e; exact absurd rfl (hl _ (List.mem_of_getElem? e) st pe li)⟩
/-- Changes that concern nobody else: objects made, loops from b on turned. -/
def Fra (b : Nat) (h h' : AH) : Prop := h.length ≤ h'.length ∧ ∀ (i : Nat) (ob : AObj), h[i]? = some ob → h'[i]? = some ob ∨ (b ≤ i ∧ ∃ st pe li, ob = .loop st pe li)
theorem Fra.app (b : Nat) (h l : AH) : Fra b h (h ++ l) := ⟨by simp, fun i ob e => .inl (by rw [List.getElem?_append_left (List.getElem?_eq_some_iff.1 e).1]; exact e)⟩
theorem Fra.set {b i : Nat} {h : AH} {st : LoopState} {pe : Option Code} {li : LI} (hb : b ≤ i) (e : h[i]? = some (.loop st pe li)) (ob : AObj) : Fra b h (h.set i ob) := ⟨by simp, fun k o ek => by
  by_cases hk : i = k
  · subst hk; rw [e] at ek; cases ek; exact .inr ⟨hb, _, _, _, rfl⟩
  · exact .inl (by rw [List.getElem?_set_ne hk]; exact ek)⟩
theorem Fra.split {K j h' : AH} (hf : Fra K.length (K ++ j) h') : ∃ j', h' = K ++ j' ∧ j.length ≤ j'.length ∧ ∀ (i : Nat) (ob : AObj), j[i]? = some ob → j'[i]? = some ob ∨ ∃ st pe li, ob = .loop st pe li := by
  obtain ⟨h1, h2⟩ := hf
  rw [List.length_append] at h1
  have e : h'.take K.length = K := by
    refine List.ext_getElem? fun i => ?_
    rw [List.getElem?_take]
    split
    · rename_i hi
      rcases h2 i K[i] (by rw [List.getElem?_append_left hi]; exact List.getElem?_eq_getElem hi) with h | ⟨h, _⟩
      · rw [h, List.getElem?_eq_getElem hi]
      · omega
    · rename_i hi; rw [List.getElem?_eq_none (by omega)]
  refine ⟨h'.drop K.length, ?_, by simp; omega, fun i ob ei => ?_⟩
  · conv => rhs; lhs; rw [← e]
    rw [List.take_append_drop]
  · rw [List.getElem?_drop]
    rcases h2 (K.length + i) ob (by rw [List.getElem?_append_right (by omega), Nat.add_sub_cancel_left]; exact ei) with h | ⟨_, h⟩
    · exact .inl h
    · exact .inr h
/-- Objects made, no loops among them. -/
def AppNL (h h' : AH) : Prop := ∃ l, NoLoop l ∧ h' = h ++ l
theorem AppNL.fra {h h' : AH} (H : AppNL h h') (b : Nat) : Fra b h h' := by obtain ⟨l, _, rfl⟩ := H; exact .app b h l
/-- Who consumes the elements that a function yields, one after the other. -/
structure Consumer (P : Program) (Γ : Nat → Option (List AV)) (Cl : AH → AH → Prop) (L b : Nat) {α : Type} (enc : α → AV) (items : List α) (Inv : List α → AH → Prop) (Stp : AH → Prop) : Prop where
  inv : ∀ don h h', Inv don h → Cl h h' → Inv don h'
  stp : ∀ h h', Stp h → Cl h h' → Stp h'
  yl : ∀ don x r h, items = don ++ x :: r → b ≤ h.length → Inv don h → AYield P Γ L [enc x] h fun v h' => Kept b h h' ∧ ((v = .bool true ∧ Inv (don ++ [x]) h') ∨ (v = .bool false ∧ Stp h'))
section
variable {P : Program} {Γ : Nat → Option (List AV)} {h : AH} {w : World} {N : Nat} {σ : Tm} {Q : Exit → Tm → AH → Prop}
/-- **A range over a function**, what was made meanwhile being kept, other loops turned. -/
theorem awp_rangeFuncN {g : Operand} {ps : Array Tmp} {assign body : Code} {gf : FuncId} {first caps : List AV} (hg : ev Γ σ g = .func gf first caps)
    (H : ACalls P Γ gf (first ++ [.yield h.length] ++ caps) (h ++ [.loop .ready none ⟨N, σ, ps, assign, body⟩]) fun _ h' => ∃ h2 st pe l, h' = h2 ++ .loop st pe ⟨N, σ, ps, assign, body⟩ :: l ∧ h2.length = h.length ∧ (∀ (i : Nat) (st : LoopState) (pe : Option Code) (li : LI), (h2 ++ .dead :: l)[i]? = some (.loop st pe li) → ∃ st0 pe0 li0, h[i]? = some (.loop st0 pe0 li0)) ∧ st ≠ .busy ∧ afterLoop P Γ N Q σ (h2 ++ .dead :: l) pe) :
    AWP P Γ N (.rangeFunc g ps assign body) Q σ h := fun r G w a hr hI ht => by
  have hgv := ev_VR hI ht g
  rw [hg] at hgv
  generalize hvf : a.eval g = vf at hgv
  cases hgv with
  | func f1 f2 f3 f4 =>
  rename_i vfirst vcap
  obtain ⟨henter, hcall⟩ := H
  refine wpIn_rangeFunc fun fn _ => ?_
  -- the record is laid
  obtain ⟨D, marks, w1, b, G1, hrun, hIL, hle, ⟨hb1, hb2, hb3⟩, hmarks⟩ : ∃ (D : Nat) (marks : List Nat) (w1 : World) (b : Nat) (G1 : Gh),
      (Instr.enterLoop fn a.tmps ps assign body r).run P w = .ok (b, marks.map mark) w1 ∧
      Inv Γ G1 (h ++ [.loop .ready none ⟨N, σ, ps, assign, body⟩]) w1 ∧ G.le G1 ∧ (G1.ρ h.length = some b ∧ G1.lpD b = some D ∧ G.lpD b = none) ∧
      ((marks = [] ∧ ∃ x, G.lpD x = some D) ∨ (marks = [D] ∧ ¬ G.ds D ∧ ∀ x, G1.lpD x = some D → x = b)) := by
    have hleG : ∀ (G0 : Gh) (b D : Nat), G0.ρ = G.ρ → G0.F = G.F → G0.ar = G.ar → G0.w0 = G.w0 → G0.lpD = G.lpD → (∀ x, G.ds x → G0.ds x) → G.lpD b = none → ((∃ x, G.lpD x = some D) ∨ ¬ G.ds D) → G.le (G0.loop h.length b D) :=
      fun G0 b D e1 e2 e3 e4 e5 e6 e7 e8 => ⟨e4, fun i c e => by
          have := hI.domρ i c e
          simp only [Gh.loop, Gh.add, e1]
          rw [if_neg (by omega)]; exact e, fun b o v e => by simp only [Gh.loop, Gh.add, e2]; exact e, fun i r e => ⟨r, by simp only [Gh.loop, Gh.add, e3]; exact e, Nat.le_refl _, fun _ => rfl⟩, fun x D' e => by
          simp only [Gh.loop, e5]
          rw [if_neg (fun e' => by subst e'; rw [e7] at e; cases e)]; exact e, e6, fun x D' e ed => by
          simp only [Gh.loop, e5] at e
          split at e
          · cases e
            rcases e8 with e8 | e8
            · exact e8
            · exact absurd ed e8
          · exact ⟨x, e⟩⟩
    cases r with
    | none =>
      have h1 := hI.newD
      have h2 := h1.newLoop { state := .ready, pending := none, fn := fn, tmps := a.tmps, params := ps, assign := assign, body := body, defers := w.heap.size } (.inr rfl) rfl rfl (li := ⟨N, σ, ps, assign, body⟩) rfl rfl rfl
        ⟨ht.1, fun i => by refine VR.same (G := G) ?_ ?_ ?_ (ht.2 i) <;> rfl⟩
      simp only [World.size_alloc] at h2
      refine ⟨w.heap.size, [w.heap.size], _, w.heap.size + 1, _, run_enterLoop_outer fn a.tmps ps assign body, h2, ?_, ⟨Gh.add_same _ _ _, by simp [Gh.loop], hI.lpD_none (by omega)⟩, .inr ⟨rfl, hI.ds_not (Nat.le_refl _), fun x hx => ?_⟩⟩
      · exact hleG _ _ _ rfl rfl rfl rfl rfl (fun _ h => .inl h) (hI.lpD_none (by omega)) (.inr (hI.ds_not (Nat.le_refl _)))
      · simp only [Gh.loop] at hx
        split at hx
        · assumption
        · obtain ⟨l, _, _, k⟩ := hI.lp x _ hx
          exact absurd k (hI.ds_not (Nat.le_refl _))
    | some l0 =>
      obtain ⟨D, hD⟩ := hr l0 rfl
      obtain ⟨r0, k1, k2, k3⟩ := hI.lp l0 D hD
      have h2 := hI.newLoop { state := .ready, pending := none, fn := fn, tmps := a.tmps, params := ps, assign := assign, body := body, defers := r0.defers } (by rw [k2]; exact k3) rfl rfl (li := ⟨N, σ, ps, assign, body⟩) rfl rfl rfl ht
      refine ⟨r0.defers, [], _, w.heap.size, _, run_enterLoop_inner k1 fn a.tmps ps assign body, h2, ?_, ⟨Gh.add_same _ _ _, by simp [Gh.loop], hI.lpD_none (Nat.le_refl _)⟩, .inl ⟨rfl, l0, by rw [k2]; exact hD⟩⟩
      exact hleG _ _ _ rfl rfl rfl rfl rfl (fun _ h => h) (hI.lpD_none (Nat.le_refl _)) (.inl ⟨l0, by rw [k2]; exact hD⟩)
  have hargs : VRs G1 (first ++ [.yield h.length] ++ caps) ((vfirst ++ #[.func (.yield b) #[] #[]]) ++ vcap) :=
    VRs.append (VRs.append ((show VRs G first vfirst from ⟨f1, f3⟩).mono hle) (VRs.one (VR.yield hb1))) ((show VRs G caps vcap from ⟨f2, f4⟩).mono hle)
  refine ⟨b, marks.map mark, w1, { target := .fn (.func gf) vcap, args := vfirst ++ #[.func (.yield b) #[] #[]] }, w1, gf, (vfirst ++ #[.func (.yield b) #[] #[]]) ++ vcap, w1, hrun, ?_, fun _ _ => trivial, ?_, fun e => by simp [Fr] at e, ?_⟩
  · simp only [resolve, rangeCall, hvf]
    simp [Deferred.ofValue, Act.eval]
  · simp [invoke, henter]
  refine CallsIn.mono (callsIn_Fr.2 (hcall G1 w1 _ hIL hargs)) fun e w3 hres => ?_
  obtain ⟨v, G2, av, h', rfl, k1, k2, _, h2, st, pe, l, rfl, hlen, hkept, hst, hafter⟩ := hres
  have hL : (h2 ++ .loop st pe ⟨N, σ, ps, assign, body⟩ :: l)[h.length]? = some (.loop st pe ⟨N, σ, ps, assign, body⟩) := by rw [← hlen]; simp
  obtain ⟨b', l3, m1, m2, m3, m4, m5, m6, m7, m8, m9⟩ := k2.obj h.length _ hL
  have hb2' := k1.ρ _ _ hb1
  rw [hb2'] at m1; cases m1
  refine ⟨l3.pending, _, run_endLoop m2 (by rw [m3]; exact hst), ?_⟩
  have hnew := putObj_same (w := w3) (o := .loop { l3 with state := .exhausted }) (lt_of_heap m2)
  have hA := k2.write (w' := w3.putObj b (.loop { l3 with state := .exhausted })) hb2' putObj_size rfl rfl rfl (fun k hk => World.putObj_heap_other hk) .dead trivial (fun D0 hD0 => by
    obtain ⟨l4, e1, e2, _⟩ := k2.lp b D0 hD0
    rw [m2] at e1; cases e1
    exact ⟨_, hnew, e2⟩) (by rw [m2]; simp) (by rw [hL]; simp)
  rw [← hlen, List.set_append_right _ _ (Nat.le_refl _), Nat.sub_self, List.set_cons_zero] at hA
  have hle2 := hle.trans k1
  -- the loop's word is taken back
  obtain ⟨del, hdel1, hdel2, hdel3⟩ : ∃ del : Nat → Prop, del b ∧ (∀ x, (G.lpD x).isSome = true → ¬ del x) ∧ ∀ D0 ∈ marks, ¬ G.ds D0 ∧ G2.ds D0 ∧ ∀ x, G2.lpD x = some D0 → del x := by
    have hds : G2.ds D := by obtain ⟨_, _, _, k⟩ := hIL.lp b D hb2; exact k1.ds D k
    rcases hmarks with ⟨rfl, _⟩ | ⟨rfl, n1, n2⟩
    · refine ⟨fun x => x = b, rfl, fun x hx e => ?_, fun D0 h0 => by cases h0⟩
      subst e
      rw [hb3] at hx; cases hx
    · refine ⟨fun x => x = b ∨ G2.lpD x = some D, .inl rfl, fun x hx e => ?_, fun D0 h0 => ?_⟩
      · rcases e with rfl | e
        · rw [hb3] at hx; cases hx
        · cases hx' : G.lpD x with
          | none => rw [hx'] at hx; cases hx
          | some D' =>
            have := hle2.lpD x D' hx'
            rw [e] at this; cases this
            obtain ⟨_, _, _, k⟩ := hI.lp x D hx'
            exact n1 k
      · rw [List.mem_singleton] at h0; subst h0
        exact ⟨n1, hds, fun x hx => .inr hx⟩
  have hnd : marks.Nodup := by rcases hmarks with ⟨rfl, _⟩ | ⟨rfl, _⟩ <;> simp
  open Classical in
  have hC := hA.relp (fun x => if del x then none else G2.lpD x) G2.ds (fun i st pe li c l e hρ hl hlp => by
      obtain ⟨st0, pe0, li0, e⟩ := hkept i st pe li e
      obtain ⟨c', l', q1, q2, q3, q4, q5, q6, q7, q8, q9⟩ := hI.obj i _ e
      have := hle2.ρ i c' q1
      rw [hρ] at this; cases this
      rw [if_neg (hdel2 c (by rw [q9]; rfl))]
      exact hlp)
    (fun x D0 e => by
      split at e
      · cases e
      · obtain ⟨l, q1, q2, q3⟩ := hA.lp x D0 e
        exact ⟨⟨l, q1, q2, q3⟩, hA.lpB x D0 e⟩)
    hA.dsI
  open Classical in
  have hleF : G.le { G2 with lpD := fun x => if del x then none else G2.lpD x, ds := G2.ds } :=
    ⟨hle2.w0, hle2.ρ, hle2.F, hle2.ar, fun x D0 e => by
      show (if del x then none else G2.lpD x) = some D0
      rw [if_neg (hdel2 x (by rw [e]; rfl))]; exact hle2.lpD x D0 e, hle2.ds, fun x D0 e ed => by
      have e' : (if del x then none else G2.lpD x) = some D0 := e
      split at e'
      · cases e'
      · exact hle2.lpN x D0 e' ed⟩
  have hTR : ∀ G' : Gh, G'.ρ = G2.ρ → G'.F = G2.F → G'.ar = G2.ar → TR N G' σ a.tmps := fun G' e1 e2 e3 =>
    ⟨ht.1, fun i => VR.same e1 e2 e3 ((ht.2 i).mono hle2)⟩
  have hDs : ∀ (G' : Gh), G'.ds = G2.ds → (∀ x, G'.lpD x = if del x then none else G2.lpD x) → ∀ D0 ∈ marks, ¬ G.ds D0 ∧ G'.ds D0 ∧ ∀ x, G'.lpD x ≠ some D0 := fun G' e1 e2 D0 h0 => by
    obtain ⟨q1, q2, q3⟩ := hdel3 D0 h0
    refine ⟨q1, by rw [e1]; exact q2, fun x e => ?_⟩
    rw [e2] at e
    split at e
    · cases e
    · rename_i hn; exact hn (q3 x e)
  generalize w3.putObj b (.loop { l3 with state := .exhausted }) = W at hC ⊢
  rw [m4]
  cases pe with
  | none => exact ⟨_, σ, h2 ++ .dead :: l, marks, hleF, hC, hTR _ rfl rfl rfl, rfl, hDs _ rfl (fun _ => rfl), hnd, hafter⟩
  | some c => exact AWP.after (show AWP P Γ N c Q σ (h2 ++ .dead :: l) from hafter) hr hleF (hDs _ rfl (fun _ => rfl)) hnd hC (a := { a with defers := marks.map mark ++ a.defers }) (hTR _ rfl rfl rfl) rfl
/-- A range over a function, its loop's words abbreviated. -/
theorem awp_rangeFuncNL {g : Operand} {ps : Array Tmp} {assign body : Code} {gf : FuncId} {first caps : List AV} (hg : ev Γ σ g = .func gf first caps)
    (H : ∀ li : LI, li = ⟨N, σ, ps, assign, body⟩ → ACalls P Γ gf (first ++ [.yield h.length] ++ caps) (h ++ [.loop .ready none li]) fun _ h' => ∃ h2 st pe l, h' = h2 ++ .loop st pe li :: l ∧ h2.length = h.length ∧ (∀ (i : Nat) (st : LoopState) (pe : Option Code) (li : LI), (h2 ++ .dead :: l)[i]? = some (.loop st pe li) → ∃ st0 pe0 li0, h[i]? = some (.loop st0 pe0 li0)) ∧ st ≠ .busy ∧ afterLoop P Γ N Q σ (h2 ++ .dead :: l) pe) :
    AWP P Γ N (.rangeFunc g ps assign body) Q σ h := awp_rangeFuncN hg (H _ rfl)
/-! ### Heaps about a range over a function -/
theorem Kept.mono {b b' : Nat} {h h' : AH} (K : Kept b h h') (hb : b ≤ b') : Kept b' h h' :=
  ⟨K.len, fun i c T hi => K.fn i c T (Nat.le_trans hb hi), fun i st pe li hi => K.lp i st pe li (Nat.le_trans hb hi), K.old⟩
theorem Kept.turn {b i : Nat} {h1 h2 : AH} {s0 s1 : LoopState} {p0 p1 : Option Code} {li : LI} (e1 : h1[i]? = some (.loop s0 p0 li)) (K : Kept b (h1.set i (.loop s1 p1 li)) h2) : Kept b h1 (h2.set i (.loop s0 p0 li)) := by
  have hi := (List.getElem?_eq_some_iff.1 e1).1
  have hl := K.len
  rw [List.length_set] at hl
  refine ⟨by simpa using hl, fun k c T hb hf e => ?_, fun k st pe li' hb => ?_, fun k st pe li' e => ?_⟩
  · have hki : k ≠ i := fun e' => by subst e'; rw [e1] at e; cases e
    rw [List.getElem?_set_ne (fun e' => hki e'.symm)]
    exact K.fn k c T hb hf (by rw [List.getElem?_set_ne (fun e' => hki e'.symm)]; exact e)
  · by_cases hki : k = i
    · subst hki; rw [List.getElem?_set_self (by omega), e1]
    · have := K.lp k st pe li' hb
      rw [List.getElem?_set_ne (fun e' => hki e'.symm)] at this
      rw [List.getElem?_set_ne (fun e' => hki e'.symm)]; exact this
  · by_cases hki : k = i
    · subst hki; exact ⟨_, _, _, e1⟩
    · rw [List.getElem?_set_ne (fun e' => hki e'.symm)] at e
      have := K.old k st pe li' e
      rwa [List.getElem?_set_ne (fun e' => hki e'.symm)] at this
theorem Kept.setB {b i : Nat} {h h' : AH} {s s0 : LoopState} {p p0 : Option Code} {li li0 : LI} (K : Kept b h h') (hi : i < b) (e : h[i]? = some (.loop s0 p0 li0)) : Kept b h (h'.set i (.loop s p li)) := by
  refine ⟨by simpa using K.len, fun k c T hb hf e => ?_, fun k st pe li' hb => ?_, fun k st pe li' ek => ?_⟩
  · rw [List.getElem?_set_ne (by omega)]; exact K.fn k c T hb hf e
  · rw [List.getElem?_set_ne (by omega)]; exact K.lp k st pe li' hb
  · by_cases hki : k = i
    · subst hki; exact ⟨_, _, _, e⟩
    · rw [List.getElem?_set_ne (fun e' => hki e'.symm)] at ek
      exact K.old k st pe li' ek
theorem Kept.setRow {b i : Nat} {h h' : AH} {cs : List AV} {T : TypeId} (K : Kept b h h') (hi : i < b) : Kept b h (h'.set i (.row cs T)) := by
  refine ⟨by simpa using K.len, fun k c T hb hf e => ?_, fun k st pe li' hb => ?_, fun k st pe li' ek => ?_⟩
  · rw [List.getElem?_set_ne (by omega)]; exact K.fn k c T hb hf e
  · rw [List.getElem?_set_ne (by omega)]; exact K.lp k st pe li' hb
  · by_cases hki : k = i
    · subst hki
      rw [List.getElem?_set] at ek
      simp only [if_true] at ek
      split at ek <;> cases ek
    · rw [List.getElem?_set_ne (fun e' => hki e'.symm)] at ek
      exact K.old k st pe li' ek
theorem Kept.endL {b : Nat} {h X h' : AH} {s : LoopState} {p : Option Code} {li : LI} (hX : NoLoop X) (K : Kept b (h ++ X ++ [.loop s p li]) h') : Kept b h (h'.set (h ++ X).length .dead) := by
  have hl := K.len
  simp only [List.length_append, List.length_cons, List.length_nil] at hl
  have hin : ∀ (k : Nat) (st : LoopState) (pe : Option Code) (li' : LI), k ≠ (h ++ X).length → ((h ++ X ++ [.loop s p li])[k]? = some (.loop st pe li') ↔ h[k]? = some (.loop st pe li')) := fun k st pe li' hk => by
    by_cases h1 : k < h.length
    · rw [List.append_assoc, List.getElem?_append_left h1]
    · constructor
      · intro e
        by_cases h2 : k < (h ++ X).length
        · rw [List.getElem?_append_left h2, List.getElem?_append_right (by omega)] at e
          exact absurd rfl (hX _ (List.mem_of_getElem? e) st pe li')
        · rw [List.getElem?_append_right (by omega), List.getElem?_eq_none (by simp at h2 hk ⊢; omega)] at e; cases e
      · intro e; rw [List.getElem?_eq_none (by omega)] at e; cases e
  refine ⟨by simp; omega, fun k c T hb hf e => ?_, fun k st pe li' hb => ?_, fun k st pe li' e => ?_⟩
  · have hk := (List.getElem?_eq_some_iff.1 e).1
    rw [List.getElem?_set_ne (by simp; omega)]
    exact K.fn k c T hb hf (by rw [List.append_assoc, List.getElem?_append_left hk]; exact e)
  · by_cases hki : k = (h ++ X).length
    · subst hki
      rw [List.getElem?_set_self (by simp; omega), List.getElem?_eq_none (by simp)]
      constructor <;> intro e <;> cases e
    · rw [List.getElem?_set_ne (fun e' => hki e'.symm), ← K.lp k st pe li' hb, hin k st pe li' hki]
  · by_cases hki : k = (h ++ X).length
    · subst hki
      rw [List.getElem?_set_self (by simp; omega)] at e; cases e
    · rw [List.getElem?_set_ne (fun e' => hki e'.symm)] at e
      obtain ⟨a1, a2, a3, e⟩ := K.old k st pe li' e
      exact ⟨_, _, _, (hin k _ _ _ hki).1 e⟩
/-- What the range asks for at its end. -/
theorem rangeN_post {hb h' : AH} {st : LoopState} {pe : Option Code} {li li0 : LI} (hL : h'[hb.length]? = some (.loop st pe li)) (hold : ∀ (i : Nat) (st : LoopState) (pe : Option Code) (li : LI), h'[i]? = some (.loop st pe li) → ∃ st0 pe0 lj, (hb ++ [.loop .ready none li0])[i]? = some (.loop st0 pe0 lj)) (hst : st ≠ .busy)
    (H : afterLoop P Γ N Q σ (h'.set hb.length .dead) pe) : ∃ h2 st pe l, h' = h2 ++ .loop st pe li :: l ∧ h2.length = hb.length ∧ (∀ (i : Nat) (st : LoopState) (pe : Option Code) (li : LI), (h2 ++ .dead :: l)[i]? = some (.loop st pe li) → ∃ st0 pe0 li0, hb[i]? = some (.loop st0 pe0 li0)) ∧ st ≠ .busy ∧ afterLoop P Γ N Q σ (h2 ++ .dead :: l) pe := by
  obtain ⟨hl, hg⟩ := List.getElem?_eq_some_iff.1 hL
  have e1 : h' = h'.take hb.length ++ .loop st pe li :: h'.drop (hb.length + 1) := by
    conv => lhs; rw [← List.take_append_drop hb.length h', List.drop_eq_getElem_cons hl, hg]
  have e2 : h'.set hb.length .dead = h'.take hb.length ++ .dead :: h'.drop (hb.length + 1) := List.set_eq_take_append_cons_drop .. |>.trans (by rw [if_pos hl])
  refine ⟨_, st, pe, _, e1, by simp; omega, fun i st' pe' li' e => ?_, hst, by rw [← e2]; exact H⟩
  rw [← e2] at e
  by_cases hi : i = hb.length
  · subst hi; rw [List.getElem?_set_self hl] at e; cases e
  · rw [List.getElem?_set_ne (fun e' => hi e'.symm)] at e
    obtain ⟨a1, a2, a3, e⟩ := hold i st' pe' li' e
    by_cases hlt : i < hb.length
    · rw [List.getElem?_append_left hlt] at e; exact ⟨_, _, _, e⟩
    · rw [List.getElem?_append_right (by omega), List.getElem?_eq_none (by simp; omega)] at e; cases e
end
end Go.Abs
