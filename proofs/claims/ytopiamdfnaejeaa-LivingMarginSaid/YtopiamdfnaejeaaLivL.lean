/- What the laws on the living say, of the reference's answers. Plain. -/
import Derived.Test.YtopiamdfnaejeaaLivK
set_option linter.unusedSimpArgs false
set_option linter.unusedVariables false
namespace Go.Proofs.Ytopiamdfnaejeaa
open Go Go.Proofs Go.Abs

theorem mem_both (x : Int) (a b : List Int) : x ∈ bothF a b ↔ x ∈ a ∧ x ∈ b := by simp [bothF]
theorem mem_wt (x : Int) (a b : List Int) : x ∈ wtF a b ↔ x ∈ a ∧ x ∉ b := by simp [wtF]
structure ErrOK (g : Gt) (al : List Int) : Prop where
  c : checkF g = 0
  a : ascF (-1) al = true
  p : ascF (-1) (pplF g) = true
  n : (pplF g).length ≤ 12
theorem err_ok {g : Gt} {al : List Int} (h : err51F g al = 0) : ErrOK g al := by
  obtain ⟨h1, h2⟩ := err51_facts h
  obtain ⟨h3, _, h5⟩ := errF_facts h1
  exact ⟨h3, h2, asc_ppl (checkF_right h3), h5⟩
theorem holdsR_asc {g : Gt} {al s : List Int} (h : ErrOK g al) (hs : ascF (-1) s = true) : holdsR g s = (permF g s, 0) := (permF_asc h.c hs).1
theorem asc_both {g : Gt} {al : List Int} (h : ErrOK g al) : ascF (-1) (bothF (pplF g) al) = true := ascF_filter _ h.p
theorem asc_wt {l : List Int} (o : List Int) (h : ascF (-1) l = true) : ascF (-1) (wtF l o) = true := ascF_filter _ h
theorem perm_both {g : Gt} {al : List Int} (h : ErrOK g al) : permF g (bothF (pplF g) al) = permF g al :=
  perm_eq h.c (asc_both h) h.a fun x hx => by rw [mem_both]; exact ⟨fun e => e.2, fun e => ⟨hx, e⟩⟩
theorem ord_err {g : Gt} {al : List Int} (h : err51F g al ≠ 0) : livR g al = ([], false, err51F g al) ∧ deaR g al = ([], false, err51F g al) ∧ marR g al = ([], false, err51F g al) := by
  simp [livR, deaR, marR, h]
theorem liv_true {g : Gt} {al : List Int} (he : err51F g al = 0) (hp : permF g al = true) :
    ∃ s, livR g al = (s, true, 0) ∧ (allF (bothF (pplF g) al)).find? (permF g) = some s ∧ s.Sublist (bothF (pplF g) al) ∧ permF g s = true := by
  have h := err_ok he
  cases hf : (allF (bothF (pplF g) al)).find? (permF g) with
  | none =>
    have := first_none hf (.refl _)
    rw [perm_both h, hp] at this; cases this
  | some s => exact ⟨s, by simp [livR, he, firstF, hf], rfl, first_some hf⟩
theorem liv_false {g : Gt} {al : List Int} (he : err51F g al = 0) (hp : permF g al = false) : livR g al = ([], false, 0) := by
  have h := err_ok he
  cases hf : (allF (bothF (pplF g) al)).find? (permF g) with
  | none => simp [livR, he, firstF, hf]
  | some s =>
    obtain ⟨h1, h2⟩ := first_some hf
    have := perm_sub h.c (ascF_sub h1 (asc_both h)) h.a (fun x _ hx => ((mem_both x _ _).1 (h1.subset hx)).2) h2
    rw [hp] at this; cases this
theorem ord_true {g : Gt} {al : List Int} (he : err51F g al = 0) (hp : permF g al = true) :
    ∃ s, livR g al = (s, true, 0) ∧ deaR g al = ([], false, 0) ∧ s.length ≤ 12 ∧ holdsR g s = (true, 0) ∧ (∀ x ∈ s, x ∈ al) ∧ ∀ x ∈ s, x ∈ pplF g := by
  have h := err_ok he
  obtain ⟨s, h1, _, h2, h3⟩ := liv_true he hp
  have hs : ∀ x ∈ s, x ∈ pplF g ∧ x ∈ al := fun x hx => (mem_both x _ _).1 (h2.subset hx)
  refine ⟨s, h1, by simp [deaR, he, hp], ?_, ?_, fun x hx => (hs x hx).2, fun x hx => (hs x hx).1⟩
  · have := livR_len g al; rwa [h1] at this
  · rw [holdsR_asc h (ascF_sub h2 (asc_both h)), h3]
theorem ord_false {g : Gt} {al : List Int} (he : err51F g al = 0) (hp : permF g al = false) :
    ∃ t, livR g al = ([], false, 0) ∧ deaR g al = (t, true, 0) ∧ t.length ≤ 12 ∧ holdsR g (wtF (pplF g) t) = (false, 0) ∧ bothF t al = [] ∧ ∀ x ∈ t, x ∈ pplF g := by
  have h := err_ok he
  have hl := deaR_len g al
  cases hf : (allF (wtF (pplF g) al)).find? (fun s => !permF g (wtF (pplF g) s)) with
  | none =>
    have := first_none hf (.refl _)
    have e : permF g (wtF (pplF g) (wtF (pplF g) al)) = permF g al := by rw [wt_wt, perm_both h]
    rw [e, hp] at this; cases this
  | some t =>
    obtain ⟨h1, h2⟩ := first_some hf
    have ht : ∀ x ∈ t, x ∈ pplF g ∧ x ∉ al := fun x hx => (mem_wt x _ _).1 (h1.subset hx)
    have e : deaR g al = (t, true, 0) := by simp [deaR, he, hp, firstF, hf]
    rw [e] at hl
    refine ⟨t, liv_false he hp, e, hl, ?_, ?_, fun x hx => (ht x hx).1⟩
    · rw [holdsR_asc h (asc_wt _ h.p)]
      simpa using h2
    · rw [List.eq_nil_iff_forall_not_mem]
      intro x hx
      obtain ⟨k1, k2⟩ := (mem_both x _ _).1 hx
      exact (ht x k1).2 k2

/-! ### Margin -/
theorem mar_false {g : Gt} {al : List Int} (he : err51F g al = 0) (hp : permF g al = false) : marR g al = ([], false, 0) := by simp [marR, he, hp]
theorem mar_find {g : Gt} {al : List Int} (he : err51F g al = 0) (hp : permF g al = true) :
    ∃ s, marR g al = (s, true, 0) ∧ (allF (bothF (pplF g) al)).find? (fun s => !permF g (wtF (bothF (pplF g) al) s)) = some s := by
  have h := err_ok he
  cases hf : (allF (bothF (pplF g) al)).find? (fun s => !permF g (wtF (bothF (pplF g) al) s)) with
  | none =>
    have := first_none hf (.refl _)
    have e : wtF (bothF (pplF g) al) (bothF (pplF g) al) = [] := by
      rw [List.eq_nil_iff_forall_not_mem]; intro x hx; rw [mem_wt] at hx; exact hx.2 hx.1
    rw [e, perm_none h.c] at this; cases this
  | some s => exact ⟨s, by simp [marR, he, hp, firstF, hf], rfl⟩
/-- Taking away from the living people of the formula, or from all that are alive, is the same to the formula. -/
theorem perm_less {g : Gt} {al : List Int} (h : ErrOK g al) (s t : List Int) (hst : ∀ x ∈ pplF g, x ∈ al → (x ∈ s ↔ x ∈ t)) : permF g (wtF (bothF (pplF g) al) s) = permF g (wtF al t) :=
  perm_eq h.c (ascF_filter _ (asc_both h)) (ascF_filter _ h.a) fun x hx => by
    rw [mem_wt, mem_wt, mem_both]
    constructor
    · rintro ⟨⟨_, k1⟩, k2⟩; exact ⟨k1, fun e => k2 ((hst x hx k1).2 e)⟩
    · rintro ⟨k1, k2⟩; exact ⟨⟨hx, k1⟩, fun e => k2 ((hst x hx k1).1 e)⟩
theorem mar_true {g : Gt} {al : List Int} (he : err51F g al = 0) (hp : permF g al = true) :
    ∃ s, marR g al = (s, true, 0) ∧ s.length ≤ 12 ∧ holdsR g (wtF al s) = (false, 0) ∧ (∀ x ∈ s, x ∈ al) ∧
      ∀ own : List Int, own.Sublist al → holdsR g (wtF al own) = (permF g (wtF al own), 0) ∧ (permF g (wtF al own) = false → s.length ≤ own.length ∧ (s.length = own.length → befF own s = false)) := by
  have h := err_ok he
  obtain ⟨s, h1, hf⟩ := mar_find he hp
  have hl := marR_len g al
  rw [h1] at hl
  obtain ⟨h2, h3⟩ := first_some hf
  have hs : ∀ x ∈ s, x ∈ pplF g ∧ x ∈ al := fun x hx => (mem_both x _ _).1 (h2.subset hx)
  refine ⟨s, h1, hl, ?_, fun x hx => (hs x hx).2, fun own ho => ⟨holdsR_asc h (asc_wt _ h.a), fun hno => ?_⟩⟩
  · rw [holdsR_asc h (asc_wt _ h.a), ← perm_less h s s fun x _ _ => Iff.rfl]
    simpa using h3
  · have hsub : ((bothF (pplF g) al).filter fun x => decide (x ∈ own)).Sublist own := by
      refine sub_of_asc _ _ (asc_pw (ascF_filter _ (asc_both h))) ((asc_pw h.a).sublist ho) fun x hx => ?_
      simp at hx; exact hx.2
    have hno' : permF g (wtF (bothF (pplF g) al) ((bothF (pplF g) al).filter fun x => decide (x ∈ own))) = false := by
      rw [perm_less h _ own fun x hx hxa => ?_, hno]
      rw [List.mem_filter, mem_both]
      simp [hx, hxa]
    obtain ⟨k1, k2⟩ := first_least (asc_pw (asc_both h)) hf (List.filter_sublist (p := fun x => decide (x ∈ own))) (by simp [hno'])
    have hle := hsub.length_le
    refine ⟨by omega, fun e => ?_⟩
    have heq := hsub.eq_of_length (by omega)
    rw [heq] at k2
    exact k2 e

/-! ### One more -/
def moreF (al : List Int) (o : Int) : List Int := ((List.range 64).map Int.ofNat).filter fun p => decide (p = o) || decide (p ∈ al)
theorem mem_more {g : Gt} {al : List Int} (h : ErrOK g al) {o : Int} (ho : 0 ≤ o ∧ o < 64) (x : Int) : x ∈ moreF al o ↔ x = o ∨ x ∈ al := by
  unfold moreF
  rw [List.mem_filter, List.mem_map]
  simp only [List.mem_range, Bool.or_eq_true, decide_eq_true_eq]
  refine ⟨fun e => e.2, fun e => ⟨?_, e⟩⟩
  have hx : 0 ≤ x ∧ x < 64 := by
    rcases e with rfl | e
    · exact ho
    · have := ((ascF_iff al _).1 h.a).2 x e; omega
  exact ⟨x.toNat, by omega, by simp; omega⟩
theorem asc_more (al : List Int) (o : Int) : ascF (-1) (moreF al o) = true := ascF_filter _ (by decide +kernel)
theorem err_more {g : Gt} {al : List Int} (h : err51F g al = 0) (o : Int) : err51F g (moreF al o) = 0 := by
  simp [err51F, (err51_facts h).1, asc_more]
theorem both_sub {g : Gt} {al : List Int} (h : ErrOK g al) {o : Int} (ho : 0 ≤ o ∧ o < 64) : (bothF (pplF g) al).Sublist (bothF (pplF g) (moreF al o)) :=
  sub_of_asc _ _ (asc_pw (asc_both h)) (asc_pw (ascF_filter _ h.p)) fun x hx => by
    rw [mem_both] at hx ⊢
    exact ⟨hx.1, (mem_more h ho x).2 (.inr hx.2)⟩
theorem more_true {g : Gt} {al : List Int} (he : err51F g al = 0) {o : Int} (ho : 0 ≤ o ∧ o < 64) (hp : permF g al = true) :
    permF g (moreF al o) = true ∧ (marR g al).1.length ≤ (marR g (moreF al o)).1.length ∧ (livR g (moreF al o)).1.length ≤ (livR g al).1.length := by
  have h := err_ok he
  have he' := err_more he o
  have h' := err_ok he'
  have hp' : permF g (moreF al o) = true := perm_sub h.c h.a h'.a (fun x _ hx => (mem_more h ho x).2 (.inr hx)) hp
  refine ⟨hp', ?_, ?_⟩
  · obtain ⟨s, h1, hf⟩ := mar_find he hp
    obtain ⟨s', h1', hf'⟩ := mar_find he' hp'
    rw [h1, h1']
    obtain ⟨k1, k2⟩ := first_some hf'
    have hno : permF g (wtF (bothF (pplF g) al) ((bothF (pplF g) al).filter fun x => decide (x ∈ s'))) = false := by
      cases hc : permF g (wtF (bothF (pplF g) al) ((bothF (pplF g) al).filter fun x => decide (x ∈ s'))) with
      | false => rfl
      | true =>
        have := perm_sub (t := wtF (bothF (pplF g) (moreF al o)) s') h.c (asc_wt _ (asc_both h)) (asc_wt _ (asc_both h')) (fun x hx hxs => ?_) hc
        · rw [this] at k2; cases k2
        · rw [mem_wt, List.mem_filter] at hxs
          rw [mem_wt]
          exact ⟨(both_sub h ho).subset hxs.1, fun e => hxs.2 ⟨hxs.1, by simpa using e⟩⟩
    have hle := (first_least (asc_pw (asc_both h)) hf (List.filter_sublist (p := fun x => decide (x ∈ s'))) (by simp [hno])).1
    have hsub : ((bothF (pplF g) al).filter fun x => decide (x ∈ s')).Sublist s' := by
      refine sub_of_asc _ _ (asc_pw (ascF_filter _ (asc_both h))) ((asc_pw (asc_both h')).sublist k1) fun x hx => ?_
      simp at hx; exact hx.2
    have := hsub.length_le
    simp only
    omega
  · obtain ⟨s, h1, _, h2, h3⟩ := liv_true he hp
    obtain ⟨s', h1', hf', _, _⟩ := liv_true he' hp'
    rw [h1, h1']
    exact (first_least (asc_pw (asc_both h')) hf' (h2.trans (both_sub h ho)) h3).1
theorem more_out {g : Gt} {al : List Int} (he : err51F g al = 0) {o : Int} (ho : 0 ≤ o ∧ o < 64) (hn : o ∉ pplF g) : livR g (moreF al o) = livR g al ∧ marR g (moreF al o) = marR g al := by
  have h := err_ok he
  have he' := err_more he o
  have h' := err_ok he'
  have hb : bothF (pplF g) (moreF al o) = bothF (pplF g) al := by
    unfold bothF
    apply List.filter_congr
    intro x hx
    rw [decide_eq_decide, mem_more h ho]
    exact ⟨fun e => e.elim (fun e => absurd (e ▸ hx) hn) id, .inr⟩
  have hpm : permF g (moreF al o) = permF g al := by rw [← perm_both h', ← perm_both h, hb]
  simp only [livR, marR, he, he', hb, hpm, and_self]
end Go.Proofs.Ytopiamdfnaejeaa
