/- Texts joined: AccZb. No conditions. -/
import Derived.Test.YtelehpccfaedjaaMrCH
/- AccountsNever: the plain law. No conditions. -/
set_option linter.unusedSimpArgs false
set_option linter.unusedVariables false
namespace Go.Proofs.Ytelehpccfaedjaa
open Go Go.Proofs Go.Abs

/-- A use, as known at one time. -/
def knownAt (x : Us) (n : Int) : Us := { x with known := min x.known n }
theorem rightU_known {x : Us} {n : Int} (h : rightU x = true) (hn : timeF n = true) : rightU (knownAt x n) = true := by
  have h1 := rightU_facts h
  have h2 := timeF_facts hn
  have e : rightU (knownAt x n) = (inR x.doc 0 4095 && inR x.kind 0 15 && inR x.value 0 END && inR x.at_ 0 (END - 1) && inR (min x.known n) 0 (END - 1)) := rfl
  rw [e]
  simp only [inR, show END = 1099511627776 from rfl, Bool.and_eq_true, decide_eq_true_eq]
  omega
theorem overF_nil {l : List Bg} (hp : l.Pairwise fun x y => x.no < y.no) {u : List Us} {n : Int} : overF l u n = [] ↔ ∀ x ∈ u, x.known ≤ n → ∀ b ∈ standF l x.kind x.at_ n, fineF b (spentF b u x.at_ n) = true := by
  constructor
  · intro h x hx hk b hb
    cases hf : fineF b (spentF b u x.at_ n) with
    | true => rfl
    | false =>
      have : b.no ∈ overF l u n := (mem_overF hp).2 ⟨x, hx, hk, b, hb, rfl, hf⟩
      rw [h] at this
      simp at this
  · intro h
    refine List.eq_nil_iff_forall_not_mem.2 fun m hm => ?_
    obtain ⟨x, hx, hk, b, hb, _, hf⟩ := (mem_overF hp).1 hm
    rw [h x hx hk b hb] at hf
    cases hf
theorem ofF_kind {b : Bg} {x : Us} {n : Int} (h : x.known ≤ n) : ofF b n x = forK x.kind b := by
  rw [ofF, forK, decide_eq_true h, Bool.true_and]
/-- What was spent at the time of the last one. -/
theorem spent_last {b : Bg} {S : List Us} {x : Us} {n : Int} (hS : ∀ y ∈ S, y.at_ ≤ x.at_) (hx : x.known ≤ n) : spentF b (S ++ [x]) x.at_ n = if forK x.kind b = true then ((usedF b S x.at_ n).1 + 1, (usedF b S x.at_ n).2 + x.value) else usedF b S x.at_ n := by
  have e : sumP (fun y => inP b n (x.at_ / b.period) y && decide (y.at_ ≤ x.at_)) S = usedF b S x.at_ n := sumP_congr fun y hy => by rw [decide_eq_true (hS y hy), Bool.and_true]
  rw [spentF, sumP_snoc, e]
  have : (inP b n (x.at_ / b.period) x && decide (x.at_ ≤ x.at_)) = forK x.kind b := by
    rw [inP, ofF_kind hx, decide_eq_true rfl, decide_eq_true (Int.le_refl _), Bool.and_true, Bool.and_true]
  rw [this]
theorem spent_same {b : Bg} {S : List Us} {x : Us} {n t : Int} (h : t < x.at_ ∨ (x.known ≤ n ∧ forK x.kind b = false)) : spentF b (S ++ [x]) t n = spentF b S t n := by
  rw [spentF, sumP_snoc, if_neg, spentF]
  rcases h with h | ⟨h1, h2⟩
  · rw [decide_eq_false (by omega), Bool.and_false]; simp
  · rw [inP, ofF_kind h1, h2]; simp
theorem stands_any {l : List Bg} {k k' a n : Int} {b : Bg} (h : b ∈ standF l k a n) (hk : forK k' b = true) : b ∈ standF l k' a n := by
  obtain ⟨h1, _, h3⟩ := mem_standF.1 h
  exact mem_standF.2 ⟨h1, hk, h3⟩
theorem tight_iff {b : Bg} {S : List Us} {v a n : Int} : tight S v a n b = false ↔ fineF b ((usedF b S a n).1 + 1, (usedF b S a n).2 + v) = true := by
  rw [tight, fineF]
  simp only [Bool.or_eq_false_iff, decide_eq_false_iff_not, Bool.and_eq_true, decide_eq_true_eq]
  constructor <;> intro ⟨h1, h2⟩ <;> exact ⟨by omega, by omega⟩
/-- There is room: nothing is overspent with it. -/
theorem never_ok {l : List Bg} (hp : l.Pairwise fun x y => x.no < y.no) {S : List Us} {x : Us} {n : Int} (hS : ∀ y ∈ S, y.at_ ≤ x.at_ ∧ y.known ≤ n) (hx : x.known ≤ n) (ho : overF l S n = []) (hr : roomF l S x.kind x.value x.at_ n = none) : overF l (S ++ [x]) n = [] := by
  rw [overF_nil hp] at ho ⊢
  have hroom : ∀ b ∈ standF l x.kind x.at_ n, fineF b ((usedF b S x.at_ n).1 + 1, (usedF b S x.at_ n).2 + x.value) = true := fun b hb => by
    have := List.find?_eq_none.1 hr b hb
    exact tight_iff.1 (by simpa using this)
  intro y hy hyk b hb
  rcases List.mem_append.1 hy with hy | hy
  · have hle := (hS y hy).1
    by_cases hlt : y.at_ < x.at_
    · rw [spent_same (.inl hlt)]
      exact ho y hy hyk b hb
    · have heq : y.at_ = x.at_ := by omega
      cases hf : forK x.kind b with
      | false =>
        rw [spent_same (.inr ⟨hx, hf⟩)]
        exact ho y hy hyk b hb
      | true =>
        rw [heq] at hb ⊢
        rw [spent_last (fun z hz => (hS z hz).1) hx, if_pos hf]
        exact hroom b (stands_any hb hf)
  · rw [List.mem_singleton] at hy; subst hy
    rw [spent_last (fun z hz => (hS z hz).1) hx, if_pos (mem_standF.1 hb).2.1]
    exact hroom b hb
/-- There is none: some budget would be overspent. -/
theorem never_no {l : List Bg} (hp : l.Pairwise fun x y => x.no < y.no) {S : List Us} {x : Us} {n : Int} {b : Bg} (hS : ∀ y ∈ S, y.at_ ≤ x.at_ ∧ y.known ≤ n) (hx : x.known ≤ n) (hr : roomF l S x.kind x.value x.at_ n = some b) : overF l (S ++ [x]) n ≠ [] := by
  intro h
  rw [overF_nil hp] at h
  have hb := List.mem_of_find?_eq_some hr
  have ht := List.find?_some hr
  have := h x (by simp) hx b hb
  rw [spent_last (fun z hz => (hS z hz).1) hx, if_pos (mem_standF.1 hb).2.1] at this
  rw [tight_iff.2 this] at ht
  cases ht
theorem errA_of {l : List Bg} {u : List Us} (h1 : checkB l = 0) (h2 : u.length ≤ 4096) (h3 : ∀ x ∈ u, rightU x = true) (h4 : (u.map fun x => x.doc).Nodup) : errA l u = 0 := by
  rw [errA, h1, if_neg (by simp), if_neg (by omega), if_pos ((usesF_iff u []).2 ⟨h3, h4, by simp⟩)]
/-- What is known of the uses that are signed. -/
structure Signed (l : List Bg) (S don : List Us) (n : Int) : Prop where
  right : ∀ y ∈ S, rightU y = true
  docs : (S.map fun y => y.doc).Sublist (don.map fun y => y.doc)
  ats : ∀ y ∈ S, ∃ z ∈ don, z.at_ = y.at_
  kn : ∀ y ∈ S, y.known ≤ n
  over : overF l S n = []
theorem Signed.skip {l : List Bg} {S don : List Us} {n : Int} (h : Signed l S don n) (x : Us) : Signed l S (don ++ [x]) n :=
  ⟨h.right, by rw [List.map_append]; exact h.docs.trans (List.sublist_append_left _ _), fun y hy => by obtain ⟨z, hz, e⟩ := h.ats y hy; exact ⟨z, by simp [hz], e⟩, h.kn, h.over⟩
theorem Signed.facts {l : List Bg} {S don r : List Us} {x : Us} {n : Int} (h : Signed l S don n) (hr : rightU x = true) (hn : timeF n = true) (hs : (don ++ x :: r).Pairwise fun a b => a.at_ ≤ b.at_) (hd : ((don ++ x :: r).map fun y => y.doc).Nodup) (hl : (don ++ x :: r).length ≤ 4096) (hc : checkB l = 0) :
    errA l S = 0 ∧ errA l (S ++ [knownAt x n]) = 0 ∧ (∀ y ∈ S, y.at_ ≤ (knownAt x n).at_ ∧ y.known ≤ n) ∧ (knownAt x n).known ≤ n ∧ S.length ≤ don.length := by
  have hlen : S.length ≤ don.length := by have := h.docs.length_le; simpa using this
  have hdl : don.length + 1 ≤ 4096 := by simp at hl; omega
  have hsub : ((S ++ [knownAt x n]).map fun y => y.doc).Sublist ((don ++ x :: r).map fun y => y.doc) := by
    rw [List.map_append, List.map_append, List.map_cons, List.map_cons, List.map_nil]
    exact h.docs.append (List.Sublist.cons_cons _ (List.nil_sublist _))
  have hnd := hd.sublist hsub
  refine ⟨errA_of hc (by omega) h.right ?_, errA_of hc (by simp; omega) (fun y hy => ?_) hnd, fun y hy => ⟨?_, h.kn y hy⟩, ?_, hlen⟩
  · rw [List.map_append] at hnd
    exact (List.nodup_append.1 hnd).1
  · rcases List.mem_append.1 hy with hy | hy
    · exact h.right y hy
    · rw [List.mem_singleton] at hy; subst hy; exact rightU_known hr hn
  · obtain ⟨z, hz, e⟩ := h.ats y hy
    have := (List.pairwise_append.1 hs).2.2 z hz x (by simp)
    show y.at_ ≤ x.at_
    omega
  · show min x.known n ≤ n
    omega
theorem Signed.more {l : List Bg} {S don r : List Us} {x : Us} {n : Int} (h : Signed l S don n) (hp : l.Pairwise fun x y => x.no < y.no) (hr : rightU x = true) (hn : timeF n = true) (hs : (don ++ x :: r).Pairwise fun a b => a.at_ ≤ b.at_) (hd : ((don ++ x :: r).map fun y => y.doc).Nodup) (hl : (don ++ x :: r).length ≤ 4096) (hc : checkB l = 0)
    (ho : roomF l S x.kind x.value x.at_ n = none) : Signed l (S ++ [knownAt x n]) (don ++ [x]) n := by
  obtain ⟨_, _, f3, f4, _⟩ := h.facts hr hn hs hd hl hc
  refine ⟨fun y hy => ?_, ?_, fun y hy => ?_, fun y hy => ?_, never_ok hp f3 f4 h.over ho⟩
  · rcases List.mem_append.1 hy with hy | hy
    · exact h.right y hy
    · rw [List.mem_singleton] at hy; subst hy; exact rightU_known hr hn
  · rw [List.map_append, List.map_append]
    exact h.docs.append (List.Sublist.refl _)
  · rcases List.mem_append.1 hy with hy | hy
    · obtain ⟨z, hz, e⟩ := h.ats y hy; exact ⟨z, by simp [hz], e⟩
    · rw [List.mem_singleton] at hy; subst hy; exact ⟨x, by simp, rfl⟩
  · rcases List.mem_append.1 hy with hy | hy
    · exact h.kn y hy
    · rw [List.mem_singleton] at hy; subst hy; exact f4
end Go.Proofs.Ytelehpccfaedjaa
