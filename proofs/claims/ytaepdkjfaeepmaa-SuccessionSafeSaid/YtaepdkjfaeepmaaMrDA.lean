/- Texts joined: SucP, SucQ, SucR, SucI. No conditions. -/
import Derived.Test.YtaepdkjfaeepmaaMrA
/- Ways through states, the cheapest and shortest of them, in plain lists: what a search from the end (a queue, the cheapest first) and a table that is made better round by round find. No conditions. -/
set_option linter.unusedSimpArgs false
set_option linter.unusedVariables false
namespace Go.Proofs.Ytaepdkjfaeepmaa

/-- States, which of them are safe, which are living, and where each one's stages lead, at what price. -/
structure Gr where
  N : Nat
  safe : Nat → Bool
  liv : Nat → Bool
  ways : Nat → List (Nat × Int)
structure Gr.Good (g : Gr) : Prop where
  pos : ∀ m t p, (t, p) ∈ g.ways m → 0 ≤ p
  ins : ∀ m t p, m < g.N → (t, p) ∈ g.ways m → t < g.N
  sym : ∀ m t p, m < g.N → (t, p) ∈ g.ways m → ∃ p', (m, p') ∈ g.ways t
/-- A succession from a state: its cost, and how many stages it has. -/
inductive Wk (g : Gr) : Nat → Int → Nat → Prop
  | fin {m : Nat} (h1 : g.safe m = true) (h2 : g.liv m = true) : Wk g m 0 0
  | step {m t : Nat} {p c : Int} {k : Nat} (h1 : g.safe m = true) (h2 : (t, p) ∈ g.ways m) (h3 : Wk g t c k) : Wk g m (c + p) (k + 1)
def lexLe (c : Int) (k : Nat) (c' : Int) (k' : Nat) : Prop := c < c' ∨ (c = c' ∧ k ≤ k')
theorem lexLe.refl (c : Int) (k : Nat) : lexLe c k c k := .inr ⟨rfl, Nat.le_refl _⟩
theorem lexLe.trans {a b c : Int} {i j k : Nat} (h : lexLe a i b j) (h' : lexLe b j c k) : lexLe a i c k := by
  unfold lexLe at *; omega
theorem lexLe.anti {a b : Int} {i j : Nat} (h : lexLe a i b j) (h' : lexLe b j a i) : a = b ∧ i = j := by
  unfold lexLe at *; omega
theorem Wk.pos {g : Gr} (hg : g.Good) {m : Nat} {c : Int} {k : Nat} (h : Wk g m c k) : 0 ≤ c := by
  induction h with
  | fin => exact Int.le_refl _
  | step _ h2 _ ih => have := hg.pos _ _ _ h2; omega
theorem Wk.safe {g : Gr} {m : Nat} {c : Int} {k : Nat} (h : Wk g m c k) : g.safe m = true := by
  cases h <;> assumption
/-- What a table has to say of a state. -/
def Right (g : Gr) (m : Nat) (x : Int × Nat) : Prop := (0 ≤ x.1 ∧ Wk g m x.1 x.2 ∧ ∀ c k, Wk g m c k → lexLe x.1 x.2 c k) ∨ (x = (-1, 0) ∧ ∀ c k, ¬ Wk g m c k)
theorem Right.unique {g : Gr} {m : Nat} {x y : Int × Nat} (h : Right g m x) (h' : Right g m y) : x = y := by
  rcases h with ⟨_, h1, h2⟩ | ⟨rfl, h2⟩ <;> rcases h' with ⟨_, k1, k2⟩ | ⟨rfl, k2⟩
  · have := (h2 _ _ k1).anti (k2 _ _ h1)
    exact Prod.ext this.1 this.2
  · exact absurd h1 (k2 _ _)
  · exact absurd k1 (h2 _ _)
  · rfl
/-! ### The search: a queue, the cheapest first -/
structure Dij (g : Gr) (A : Nat → Int × Nat) (Q : List (Nat × Int × Nat)) : Prop where
  done : ∀ m, m < g.N → 0 ≤ (A m).1 → Right g m (A m)
  und : ∀ m, (A m).1 < 0 → A m = (-1, 0)
  q : ∀ e ∈ Q, e.1 < g.N ∧ Wk g e.1 e.2.1 e.2.2
  fins : ∀ m, m < g.N → (A m).1 < 0 → g.safe m = true → g.liv m = true → (m, 0, 0) ∈ Q
  edges : ∀ m, m < g.N → (A m).1 < 0 → g.safe m = true → ∀ t p, (t, p) ∈ g.ways m → 0 ≤ (A t).1 → (m, (A t).1 + p, (A t).2 + 1) ∈ Q
/-- Every succession from a state that is not done is no cheaper than something in the queue. -/
theorem Dij.least {g : Gr} (hg : g.Good) {A : Nat → Int × Nat} {Q : List (Nat × Int × Nat)} (h : Dij g A Q) {m : Nat} {c : Int} {k : Nat} (hw : Wk g m c k) (hm : m < g.N) (hA : (A m).1 < 0) : ∃ e ∈ Q, lexLe e.2.1 e.2.2 c k := by
  induction hw with
  | fin h1 h2 => exact ⟨_, h.fins _ hm hA h1 h2, .refl _ _⟩
  | @step m t p c k h1 h2 h3 ih =>
    have ht := hg.ins _ _ _ hm h2
    have hp := hg.pos _ _ _ h2
    by_cases hd : 0 ≤ (A t).1
    · refine ⟨_, h.edges _ hm hA h1 _ _ h2 hd, ?_⟩
      have hr := h.done t ht hd
      rcases hr with ⟨_, _, hr⟩ | ⟨hr, _⟩
      · have := hr _ _ h3
        unfold lexLe at *
        simp only; omega
      · rw [hr] at hd; simp at hd
    · obtain ⟨e, he, hl⟩ := ih ht (by omega)
      refine ⟨e, he, ?_⟩
      unfold lexLe at *; omega
theorem Dij.mem {g : Gr} {A : Nat → Int × Nat} {Q Q' : List (Nat × Int × Nat)} (h : Dij g A Q) (hq : ∀ e, e ∈ Q' ↔ e ∈ Q) : Dij g A Q' :=
  ⟨h.done, h.und, fun e he => h.q e ((hq e).1 he), fun m a b c d => (hq _).2 (h.fins m a b c d), fun m a b c t p d e => (hq _).2 (h.edges m a b c t p d e)⟩
/-- What is taken out and was done before. -/
theorem Dij.skip {g : Gr} {A : Nat → Int × Nat} {x : Nat × Int × Nat} {Q : List (Nat × Int × Nat)} (h : Dij g A (x :: Q)) (hx : 0 ≤ (A x.1).1) : Dij g A Q := by
  refine ⟨h.done, h.und, fun e he => h.q e (List.mem_cons_of_mem _ he), fun m h1 h2 h3 h4 => ?_, fun m h1 h2 h3 t p h4 h5 => ?_⟩
  · rcases List.mem_cons.1 (h.fins m h1 h2 h3 h4) with e | e
    · rw [← e] at hx; simp only at hx; omega
    · exact e
  · rcases List.mem_cons.1 (h.edges m h1 h2 h3 t p h4 h5) with e | e
    · rw [← e] at hx; simp only at hx; omega
    · exact e
def setA (A : Nat → Int × Nat) (m : Nat) (x : Int × Nat) : Nat → Int × Nat := fun i => if i = m then x else A i
/-- What is put into the queue when a state is done. -/
def pushD (g : Gr) (A : Nat → Int × Nat) (m : Nat) (c : Int) (k : Nat) : List (Nat × Int × Nat) :=
  (g.ways m).flatMap fun b => if 0 ≤ (A b.1).1 ∨ g.safe b.1 = false then [] else ((g.ways b.1).filter fun w => decide (w.1 = m)).map fun w => (b.1, c + w.2, k + 1)
theorem Dij.take {g : Gr} (hg : g.Good) {A : Nat → Int × Nat} {m : Nat} {c : Int} {k : Nat} {Q : List (Nat × Int × Nat)} (h : Dij g A ((m, c, k) :: Q)) (hA : (A m).1 < 0) (hmin : ∀ e ∈ Q, lexLe c k e.2.1 e.2.2) :
    Dij g (setA A m (c, k)) (Q ++ pushD g (setA A m (c, k)) m c k) := by
  obtain ⟨hm, hw⟩ := h.q _ (List.mem_cons_self ..)
  simp only at hm hw
  have hc := hw.pos hg
  have hR : Right g m (c, k) := .inl ⟨hc, hw, fun c' k' hw' => by
    obtain ⟨e, he, hl⟩ := h.least hg hw' hm hA
    rcases List.mem_cons.1 he with rfl | he
    · exact hl
    · exact (hmin e he).trans hl⟩
  have e1 : setA A m (c, k) m = (c, k) := by simp [setA]
  have e2 : ∀ i, i ≠ m → setA A m (c, k) i = A i := fun i hi => by simp [setA, hi]
  refine ⟨fun i hi h1 => ?_, fun i h1 => ?_, fun e he => ?_, fun i h1 h2 h3 h4 => ?_, fun i h1 h2 h3 t p h4 h5 => ?_⟩
  · by_cases e : i = m
    · subst e; rw [e1]; exact hR
    · rw [e2 i e] at h1 ⊢; exact h.done i hi h1
  · by_cases e : i = m
    · subst e; rw [e1] at h1; simp only at h1; omega
    · rw [e2 i e] at h1 ⊢; exact h.und i h1
  · rcases List.mem_append.1 he with he | he
    · exact h.q e (List.mem_cons_of_mem _ he)
    · obtain ⟨b, hb, he⟩ := List.mem_flatMap.1 he
      split at he
      · cases he
      · rename_i hn
        obtain ⟨w, hw', rfl⟩ := List.mem_map.1 he
        obtain ⟨h1, h2⟩ := List.mem_filter.1 hw'
        have h2 := of_decide_eq_true h2
        obtain ⟨b1, b2⟩ := b
        obtain ⟨w1, w2⟩ := w
        simp only at h1 h2 hn ⊢
        subst h2
        refine ⟨hg.ins _ _ _ hm hb, .step ?_ h1 hw⟩
        cases hs : g.safe b1 with
        | true => rfl
        | false => exact absurd (.inr hs) hn
  · have hi : i ≠ m := fun e => by subst e; rw [e1] at h2; simp only at h2; omega
    rw [e2 i hi] at h2
    rcases List.mem_cons.1 (h.fins i h1 h2 h3 h4) with e | e
    · exact absurd (congrArg (·.1) e) hi
    · exact List.mem_append_left _ e
  · have hi : i ≠ m := fun e => by subst e; rw [e1] at h2; simp only at h2; omega
    by_cases ht : t = m
    · subst ht
      rw [e1]
      refine List.mem_append_right _ (List.mem_flatMap.2 ?_)
      obtain ⟨p', hp'⟩ := hg.sym _ _ _ h1 h4
      refine ⟨(i, p'), hp', ?_⟩
      rw [if_neg (by simp only; rw [h3]; simp; omega)]
      exact List.mem_map.2 ⟨(t, p), List.mem_filter.2 ⟨h4, decide_eq_true rfl⟩, rfl⟩
    · rw [e2 i hi] at h2
      rw [e2 t ht] at h5 ⊢
      rcases List.mem_cons.1 (h.edges i h1 h2 h3 t p h4 h5) with e | e
      · exact absurd (congrArg (·.1) e) hi
      · exact List.mem_append_left _ e
theorem Dij.ends {g : Gr} (hg : g.Good) {A : Nat → Int × Nat} (h : Dij g A []) {m : Nat} (hm : m < g.N) : Right g m (A m) := by
  by_cases hd : 0 ≤ (A m).1
  · exact h.done m hm hd
  · refine .inr ⟨h.und m (by omega), fun c k hw => ?_⟩
    obtain ⟨e, he, _⟩ := h.least hg hw hm (by omega)
    cases he
end Go.Proofs.Ytaepdkjfaeepmaa

/- A table that is made better round by round. No conditions. -/
set_option linter.unusedSimpArgs false
set_option linter.unusedVariables false
namespace Go.Proofs.Ytaepdkjfaeepmaa

theorem nodup_lt : ∀ (N : Nat) (l : List Nat), l.Nodup → (∀ x ∈ l, x < N) → l.length ≤ N
  | 0, l, _, h => by
    cases l with
    | nil => simp
    | cons a l => exact absurd (h a (List.mem_cons_self ..)) (Nat.not_lt_zero _)
  | N + 1, l, hn, h => by
    have h1 := nodup_lt N (l.erase N) (hn.erase N) fun x hx => by
      have h2 := (List.Nodup.mem_erase_iff hn).1 hx
      have := h x h2.2
      omega
    have h2 := List.length_erase (a := N) (l := l)
    split at h2 <;> omega
/-- There is a least one among any. -/
theorem least_pair {P : Nat → Nat → Prop} (h : ∃ a b, P a b) : ∃ a b, P a b ∧ ∀ a' b', P a' b' → a < a' ∨ (a = a' ∧ b ≤ b') := by
  have step : ∀ n a b, P a b → a ≤ n → ∃ a b, P a b ∧ ∀ a' b', P a' b' → a ≤ a' := fun n => by
    induction n with
    | zero => exact fun a b hp ha => ⟨a, b, hp, fun a' b' _ => by omega⟩
    | succ n ih =>
      intro a b hp ha
      by_cases hs : ∃ a' b', P a' b' ∧ a' < a
      · obtain ⟨a', b', h1, h2⟩ := hs
        exact ih a' b' h1 (by omega)
      · exact ⟨a, b, hp, fun a' b' h1 => Nat.le_of_not_lt fun h2 => hs ⟨a', b', h1, h2⟩⟩
  obtain ⟨a0, b0, h0⟩ := h
  obtain ⟨a, b1, h1, ha⟩ := step a0 a0 b0 h0 (Nat.le_refl _)
  have step2 : ∀ n b, P a b → b ≤ n → ∃ b, P a b ∧ ∀ b', P a b' → b ≤ b' := fun n => by
    induction n with
    | zero => exact fun b hp hb => ⟨b, hp, fun b' _ => by omega⟩
    | succ n ih =>
      intro b hp hb
      by_cases hs : ∃ b', P a b' ∧ b' < b
      · obtain ⟨b', h1, h2⟩ := hs
        exact ih b' h1 (by omega)
      · exact ⟨b, hp, fun b' h1 => Nat.le_of_not_lt fun h2 => hs ⟨b', h1, h2⟩⟩
  obtain ⟨b, h2, hb⟩ := step2 b1 b1 h1 (Nat.le_refl _)
  refine ⟨a, b, h2, fun a' b' h3 => ?_⟩
  by_cases e : a = a'
  · subst e; exact .inr ⟨rfl, hb b' h3⟩
  · have := ha a' b' h3; exact .inl (by omega)
theorem Right.exists {g : Gr} (hg : g.Good) (m : Nat) : ∃ x, Right g m x := by
  by_cases h : ∃ c k, Wk g m c k
  · obtain ⟨c, k, hw⟩ := h
    have hc := hw.pos hg
    obtain ⟨a, b, h1, h2⟩ := least_pair (P := fun a b => Wk g m (a : Int) b) ⟨c.toNat, k, by rw [Int.toNat_of_nonneg hc]; exact hw⟩
    refine ⟨((a : Int), b), .inl ⟨Int.natCast_nonneg _, h1, fun c' k' hw' => ?_⟩⟩
    have hc' := hw'.pos hg
    have := h2 c'.toNat k' (by rw [Int.toNat_of_nonneg hc']; exact hw')
    unfold lexLe; simp only; omega
  · exact ⟨(-1, 0), .inr ⟨rfl, fun c k hw => h ⟨c, k, hw⟩⟩⟩
/-- The rest of a cheapest way is a cheapest way. -/
theorem Right.tail {g : Gr} (hg : g.Good) {m : Nat} {c : Int} {k : Nat} (h : Right g m (c, k)) (hw : Wk g m c k) (hk : 0 < k) : ∃ t p, (t, p) ∈ g.ways m ∧ Right g t (c - p, k - 1) ∧ Wk g t (c - p) (k - 1) := by
  rcases h with ⟨_, _, hmin⟩ | ⟨e, _⟩
  · cases hw with
    | fin => omega
    | @step _ t p c k h1 h2 h3 =>
      refine ⟨t, p, h2, ?_, by simpa using h3⟩
      have e : c + p - p = c := by omega
      rw [e, Nat.add_sub_cancel]
      refine .inl ⟨h3.pos hg, h3, fun c' k' hw' => ?_⟩
      have := hmin _ _ (.step h1 h2 hw')
      unfold lexLe at *; simp only at *; omega
  · have := hw.pos hg
    cases e; omega
theorem Right.chain {g : Gr} (hg : g.Good) : ∀ (k m : Nat) (c : Int), m < g.N → Right g m (c, k) → 0 ≤ c → ∃ L : List Nat, L.length = k + 1 ∧ L.Nodup ∧ ∀ v ∈ L, v < g.N ∧ ∃ x, Right g v x ∧ 0 ≤ x.1 ∧ x.2 ≤ k
  | 0, m, c, hm, h, hc => ⟨[m], rfl, by simp, fun v hv => by rw [List.mem_singleton] at hv; subst hv; exact ⟨hm, _, h, hc, Nat.le_refl _⟩⟩
  | k + 1, m, c, hm, h, hc => by
    have hw : Wk g m c (k + 1) := by
      rcases h with ⟨_, h, _⟩ | ⟨e, _⟩
      · exact h
      · cases e
    obtain ⟨t, p, h1, h2, h3⟩ := h.tail hg hw (Nat.succ_pos _)
    rw [Nat.add_sub_cancel] at h2 h3
    obtain ⟨L, l1, l2, l3⟩ := Right.chain hg k t (c - p) (hg.ins _ _ _ hm h1) h2 (h3.pos hg)
    refine ⟨m :: L, by simp [l1], List.nodup_cons.2 ⟨fun hmL => ?_, l2⟩, fun v hv => ?_⟩
    · obtain ⟨_, x, hx, _, hx2⟩ := l3 m hmL
      have := hx.unique h
      rw [this] at hx2; simp only at hx2; omega
    · rcases List.mem_cons.1 hv with rfl | hv
      · exact ⟨hm, _, h, hc, Nat.le_refl _⟩
      · obtain ⟨a, x, b, d, e⟩ := l3 v hv
        exact ⟨a, x, b, d, by omega⟩
theorem Right.short {g : Gr} (hg : g.Good) {m : Nat} {x : Int × Nat} (hm : m < g.N) (h : Right g m x) (hx : 0 ≤ x.1) : x.2 < g.N := by
  obtain ⟨L, l1, l2, l3⟩ := Right.chain hg x.2 m x.1 hm h hx
  have := nodup_lt g.N L l2 fun v hv => (l3 v hv).1
  omega
/-! ### Rounds -/
def lessP (x y : Int × Nat) : Bool := if x.1 < 0 ∨ y.1 < 0 then decide (0 ≤ x.1) else decide (x.1 < y.1) || (decide (x.1 = y.1) && decide (x.2 < y.2))
def relax (B : Nat → Int × Nat) (e : Nat × Nat × Int) : Nat → Int × Nat :=
  if 0 ≤ (B e.2.1).1 then (if lessP ((B e.2.1).1 + e.2.2, (B e.2.1).2 + 1) (B e.1) = true then setA B e.1 ((B e.2.1).1 + e.2.2, (B e.2.1).2 + 1) else B) else B
def edgesOf (g : Gr) : List (Nat × Nat × Int) := (List.range g.N).flatMap fun m => if g.safe m = true then (g.ways m).map fun w => (m, w) else []
def roundF (g : Gr) (B : Nat → Int × Nat) : Nat → Int × Nat := (edgesOf g).foldl relax B
def firstT (g : Gr) : Nat → Int × Nat := fun m => if g.safe m = true ∧ g.liv m = true then (0, 0) else (-1, 0)
def roundsF (g : Gr) : Nat → Nat → Int × Nat
  | 0 => firstT g
  | n + 1 => roundF g (roundsF g n)
structure Snd (g : Gr) (B : Nat → Int × Nat) : Prop where
  und : ∀ m, (B m).1 < 0 → B m = (-1, 0)
  sound : ∀ m, 0 ≤ (B m).1 → Wk g m (B m).1 (B m).2
def Leq (x : Int × Nat) (c : Int) (k : Nat) : Prop := 0 ≤ x.1 ∧ lexLe x.1 x.2 c k
structure Tr (g : Gr) (E : List (Nat × Nat × Int)) (B0 B : Nat → Int × Nat) : Prop where
  snd : Snd g B
  mono : ∀ m, 0 ≤ (B0 m).1 → Leq (B m) (B0 m).1 (B0 m).2
  rel : ∀ e ∈ E, 0 ≤ (B0 e.2.1).1 → Leq (B e.1) ((B0 e.2.1).1 + e.2.2) ((B0 e.2.1).2 + 1)
theorem Tr.next {g : Gr} (hg : g.Good) {E : List (Nat × Nat × Int)} {B0 B : Nat → Int × Nat} (h : Tr g E B0 B) {e : Nat × Nat × Int} (hs : g.safe e.1 = true) (he : e.2 ∈ g.ways e.1) : Tr g (E ++ [e]) B0 (relax B e) := by
  obtain ⟨m, t, p⟩ := e
  simp only at hs he
  have hp := hg.pos _ _ _ he
  have key : Snd g (relax B (m, t, p)) ∧ (∀ i, 0 ≤ (B i).1 → Leq (relax B (m, t, p) i) (B i).1 (B i).2) ∧ (0 ≤ (B t).1 → Leq (relax B (m, t, p) m) ((B t).1 + p) ((B t).2 + 1)) := by
    unfold relax
    simp only
    split
    · rename_i ht
      split
      · rename_i hl
        have em : setA B m ((B t).1 + p, (B t).2 + 1) m = ((B t).1 + p, (B t).2 + 1) := by simp [setA]
        have ei : ∀ i, i ≠ m → setA B m ((B t).1 + p, (B t).2 + 1) i = B i := fun i hi => by simp [setA, hi]
        refine ⟨⟨fun i hi => ?_, fun i hi => ?_⟩, fun i hi => ?_, fun _ => ?_⟩
        · by_cases e : i = m
          · subst e; rw [em] at hi; simp only at hi; omega
          · rw [ei i e] at hi ⊢; exact h.snd.und i hi
        · by_cases e : i = m
          · subst e; rw [em]; exact .step hs he (h.snd.sound t ht)
          · rw [ei i e] at hi ⊢; exact h.snd.sound i hi
        · by_cases e : i = m
          · subst e
            rw [em]
            refine ⟨by simp only; omega, ?_⟩
            unfold lessP at hl
            rw [if_neg (by simp only; omega)] at hl
            simp only [Bool.or_eq_true, Bool.and_eq_true, decide_eq_true_eq] at hl
            unfold lexLe; simp only; omega
          · rw [ei i e]; exact ⟨hi, .refl _ _⟩
        · rw [em]; exact ⟨by simp only; omega, .refl _ _⟩
      · rename_i hl
        refine ⟨h.snd, fun i hi => ⟨hi, .refl _ _⟩, fun _ => ?_⟩
        unfold lessP at hl
        split at hl
        · rename_i hn
          rw [decide_eq_true_eq] at hl
          simp only at hn hl; omega
        · rename_i hn
          simp only [Bool.or_eq_true, Bool.and_eq_true, decide_eq_true_eq] at hn hl
          unfold Leq lexLe; omega
    · rename_i ht
      exact ⟨h.snd, fun i hi => ⟨hi, .refl _ _⟩, fun ht' => absurd ht' ht⟩
  obtain ⟨k1, k2, k3⟩ := key
  have mono : ∀ i c k, Leq (B i) c k → Leq (relax B (m, t, p) i) c k := fun i c k hl => by
    have := k2 i hl.1
    exact ⟨this.1, this.2.trans hl.2⟩
  refine ⟨k1, fun i hi => mono _ _ _ (h.mono i hi), fun e he0 hb => ?_⟩
  rcases List.mem_append.1 he0 with he0 | he0
  · exact mono _ _ _ (h.rel e he0 hb)
  · rw [List.mem_singleton] at he0
    subst he0
    have h1 := h.mono t hb
    have h2 := k3 h1.1
    refine ⟨h2.1, h2.2.trans ?_⟩
    have := h1.2
    unfold lexLe at *; simp only at *; omega
theorem Tr.all {g : Gr} (hg : g.Good) : ∀ (E don : List (Nat × Nat × Int)) {B0 B : Nat → Int × Nat}, Tr g don B0 B → (∀ e ∈ E, g.safe e.1 = true ∧ e.2 ∈ g.ways e.1) → Tr g (don ++ E) B0 (E.foldl relax B)
  | [], don, B0, B, h, _ => by simpa using h
  | e :: E, don, B0, B, h, hE => by
    have he := hE e (List.mem_cons_self ..)
    have := Tr.all hg E (don ++ [e]) (h.next hg he.1 he.2) fun x hx => hE x (List.mem_cons_of_mem _ hx)
    rw [List.foldl_cons]
    simpa using this
theorem mem_edgesOf {g : Gr} {e : Nat × Nat × Int} : e ∈ edgesOf g ↔ e.1 < g.N ∧ g.safe e.1 = true ∧ e.2 ∈ g.ways e.1 := by
  rw [edgesOf, List.mem_flatMap]
  constructor
  · rintro ⟨m, hm, he⟩
    split at he
    · rename_i hs
      obtain ⟨w, hw, rfl⟩ := List.mem_map.1 he
      exact ⟨List.mem_range.1 hm, hs, hw⟩
    · cases he
  · rintro ⟨h1, h2, h3⟩
    exact ⟨e.1, List.mem_range.2 h1, by rw [if_pos h2]; exact List.mem_map.2 ⟨e.2, h3, rfl⟩⟩
structure Bel (g : Gr) (r : Nat) (B : Nat → Int × Nat) : Prop where
  snd : Snd g B
  compl : ∀ m c k, m < g.N → Wk g m c k → k ≤ r → Leq (B m) c k
theorem Bel.first (g : Gr) : Bel g 0 (firstT g) := by
  refine ⟨⟨fun m h => ?_, fun m h => ?_⟩, fun m c k hm hw hk => ?_⟩
  · unfold firstT at *; split at h
    · simp at h
    · rename_i hn; rw [if_neg hn]
  · unfold firstT at *; split at h
    · rename_i hs; rw [if_pos hs]; exact .fin hs.1 hs.2
    · simp at h
  · cases hw with
    | fin h1 h2 => unfold firstT; rw [if_pos ⟨h1, h2⟩]; exact ⟨by simp, .refl _ _⟩
    | step => omega
theorem Bel.round {g : Gr} (hg : g.Good) {r : Nat} {B : Nat → Int × Nat} (h : Bel g r B) : Bel g (r + 1) (roundF g B) := by
  have ht : Tr g [] B B := ⟨h.snd, fun m hm => ⟨hm, .refl _ _⟩, fun e he => by cases he⟩
  have ht := Tr.all hg (edgesOf g) [] ht fun e he => (mem_edgesOf.1 he).2
  rw [List.nil_append] at ht
  refine ⟨ht.snd, fun m c k hm hw hk => ?_⟩
  cases hw with
  | fin h1 h2 =>
    have h3 := h.compl m 0 0 hm (.fin h1 h2) (Nat.zero_le _)
    have h4 := ht.mono m h3.1
    exact ⟨h4.1, h4.2.trans h3.2⟩
  | @step _ t p c k h1 h2 h3 =>
    have h4 := h.compl t c k (hg.ins _ _ _ hm h2) h3 (by omega)
    have h5 := ht.rel (m, t, p) (mem_edgesOf.2 ⟨hm, h1, h2⟩) h4.1
    refine ⟨h5.1, h5.2.trans ?_⟩
    have := h4.2
    unfold lexLe at *; simp only at *; omega
theorem Bel.rounds {g : Gr} (hg : g.Good) : ∀ n, Bel g n (roundsF g n)
  | 0 => Bel.first g
  | n + 1 => (Bel.rounds hg n).round hg
theorem rounds_right {g : Gr} (hg : g.Good) {m : Nat} (hm : m < g.N) : Right g m (roundsF g g.N m) := by
  have h := Bel.rounds hg g.N
  obtain ⟨x, hx⟩ := Right.exists hg m
  rcases hx with ⟨h1, h2, h3⟩ | ⟨h1, h2⟩
  · have hs := Right.short hg hm (.inl ⟨h1, h2, h3⟩) h1
    obtain ⟨k1, k2⟩ := h.compl m _ _ hm h2 (Nat.le_of_lt hs)
    have k3 := h3 _ _ (h.snd.sound m k1)
    obtain ⟨e1, e2⟩ := k2.anti k3
    refine .inl ⟨k1, h.snd.sound m k1, fun c k hw => ?_⟩
    rw [e1, e2]; exact h3 c k hw
  · refine .inr ⟨h.snd.und m ?_, h2⟩
    exact Int.not_le.1 fun hn => h2 _ _ (h.snd.sound m hn)
/-- What the search finds is what the rounds find. -/
theorem search_rounds {g : Gr} (hg : g.Good) {A : Nat → Int × Nat} (h : Dij g A []) {m : Nat} (hm : m < g.N) : A m = roundsF g g.N m := (h.ends hg hm).unique (rounds_right hg hm)
end Go.Proofs.Ytaepdkjfaeepmaa

/- A list that is kept as a heap: what goes up, what goes down. No conditions. -/
set_option linter.unusedSimpArgs false
set_option linter.unusedVariables false
namespace Go.Proofs.Ytaepdkjfaeepmaa

section
variable {α : Type} [Inhabited α] {le : α → α → Prop}

def atL (Q : List α) (i : Nat) : α := Q[i]?.getD default
def swapL (Q : List α) (i j : Nat) : List α := (Q.set i (atL Q j)).set j (atL Q i)
theorem swapL_len (Q : List α) (i j : Nat) : (swapL Q i j).length = Q.length := by simp [swapL]
theorem swapL_at {Q : List α} {i j : Nat} (hi : i < Q.length) (hj : j < Q.length) (k : Nat) : atL (swapL Q i j) k = if k = j then atL Q i else if k = i then atL Q j else atL Q k := by
  unfold swapL
  rw [atL, List.getElem?_set]
  by_cases e : j = k
  · subst e; rw [if_pos rfl, if_pos (by simpa using hj), if_pos rfl]; rfl
  · rw [if_neg e, if_neg (Ne.symm e), List.getElem?_set]
    by_cases e2 : i = k
    · subst e2; rw [if_pos rfl, if_pos hi, if_pos rfl]; rfl
    · rw [if_neg e2, if_neg (Ne.symm e2)]; rfl
theorem atL_get {Q : List α} {i : Nat} (hi : i < Q.length) : atL Q i = Q[i] := by rw [atL, List.getElem?_eq_getElem hi]; rfl
theorem swapL_perm {Q : List α} {i j : Nat} (hi : i < Q.length) (hj : j < Q.length) : (swapL Q i j).Perm Q := by
  rw [swapL, atL_get hi, atL_get hj]
  exact List.set_set_perm hi hj
/-- The first n entries are a heap. -/
def HeapN (le : α → α → Prop) (Q : List α) (n : Nat) : Prop := ∀ k, 0 < k → k < n → le (atL Q ((k - 1) / 2)) (atL Q k)
theorem HeapN.least (hr : ∀ a, le a a) (ht : ∀ a b c, le a b → le b c → le a c) {Q : List α} {n : Nat} (h : HeapN le Q n) : ∀ k, k < n → le (atL Q 0) (atL Q k) := fun k => by
  induction k using Nat.strongRecOn with
  | _ k ih =>
    intro hk
    by_cases e : k = 0
    · subst e; exact hr _
    · exact ht _ _ _ (ih ((k - 1) / 2) (by omega) (by omega)) (h k (by omega) hk)
structure UpI (le : α → α → Prop) (Q : List α) (j : Nat) : Prop where
  ok : ∀ k, 0 < k → k < Q.length → k ≠ j → le (atL Q ((k - 1) / 2)) (atL Q k)
  ch : ∀ k, 0 < k → k < Q.length → (k - 1) / 2 = j → 0 < j → le (atL Q ((j - 1) / 2)) (atL Q k)
theorem UpI.first {Q : List α} (h : HeapN le Q Q.length) (x : α) : UpI le (Q ++ [x]) Q.length := by
  have ha : ∀ k, k < Q.length → atL (Q ++ [x]) k = atL Q k := fun k hk => by rw [atL, List.getElem?_append_left hk]; rfl
  refine ⟨fun k h1 h2 h3 => ?_, fun k h1 h2 h3 h4 => ?_⟩
  · simp at h2
    rw [ha _ (by omega), ha _ (by omega)]
    exact h k h1 (by omega)
  · simp at h2; omega
theorem UpI.stop {Q : List α} {j : Nat} (h : UpI le Q j) (hj : j = 0 ∨ le (atL Q ((j - 1) / 2)) (atL Q j)) : HeapN le Q Q.length := fun k h1 h2 => by
  by_cases e : k = j
  · subst e
    rcases hj with hj | hj
    · omega
    · exact hj
  · exact h.ok k h1 h2 e
theorem UpI.swap (htot : ∀ a b, le a b ∨ le b a) (ht : ∀ a b c, le a b → le b c → le a c) {Q : List α} {j : Nat} (h : UpI le Q j) (hj : 0 < j) (hl : j < Q.length) (hn : ¬ le (atL Q ((j - 1) / 2)) (atL Q j)) :
    UpI le (swapL Q ((j - 1) / 2) j) ((j - 1) / 2) := by
  have hp : (j - 1) / 2 < Q.length := by omega
  have hle : le (atL Q j) (atL Q ((j - 1) / 2)) := (htot _ _).resolve_left hn
  refine ⟨fun k h1 h2 h3 => ?_, fun k h1 h2 h3 h4 => ?_⟩
  · rw [swapL_len] at h2
    rw [swapL_at hp hl, swapL_at hp hl]
    by_cases e : k = j
    · subst e
      rw [if_neg (by omega), if_pos rfl, if_pos rfl]; exact hle
    · rw [if_neg e, if_neg h3]
      by_cases e2 : (k - 1) / 2 = j
      · rw [if_pos e2]; exact h.ch k h1 h2 e2 hj
      · rw [if_neg e2]
        by_cases e3 : (k - 1) / 2 = (j - 1) / 2
        · rw [if_pos e3]
          have := h.ok k h1 h2 e
          rw [e3] at this
          exact ht _ _ _ hle this
        · rw [if_neg e3]; exact h.ok k h1 h2 e
  · rw [swapL_len] at h2
    rw [swapL_at hp hl, swapL_at hp hl]
    rw [if_neg (by omega), if_neg (by omega)]
    have hpp := h.ok ((j - 1) / 2) h4 hp (by omega)
    by_cases e : k = j
    · subst e; rw [if_pos rfl]; exact hpp
    · rw [if_neg e, if_neg (by omega)]
      have := h.ok k h1 h2 e
      rw [h3] at this
      exact ht _ _ _ hpp this
structure DnI (le : α → α → Prop) (Q : List α) (n i : Nat) : Prop where
  ok : ∀ k, 0 < k → k < n → (k - 1) / 2 ≠ i → le (atL Q ((k - 1) / 2)) (atL Q k)
  ch : ∀ k, 0 < k → k < n → (k - 1) / 2 = i → 0 < i → le (atL Q ((i - 1) / 2)) (atL Q k)
theorem DnI.stop {Q : List α} {n i : Nat} (h : DnI le Q n i) (hs : ∀ k, 0 < k → k < n → (k - 1) / 2 = i → le (atL Q i) (atL Q k)) : HeapN le Q n := fun k h1 h2 => by
  by_cases e : (k - 1) / 2 = i
  · rw [e]; exact hs k h1 h2 e
  · exact h.ok k h1 h2 e
theorem DnI.swap (htot : ∀ a b, le a b ∨ le b a) (ht : ∀ a b c, le a b → le b c → le a c) {Q : List α} {n i j : Nat} (h : DnI le Q n i) (hn : n ≤ Q.length) (hj : 0 < j) (hjn : j < n) (hp : (j - 1) / 2 = i)
    (hb : ∀ k, 0 < k → k < n → (k - 1) / 2 = i → le (atL Q j) (atL Q k)) (hl : ¬ le (atL Q i) (atL Q j)) : DnI le (swapL Q i j) n j := by
  have hi : i < Q.length := by omega
  have hj' : j < Q.length := by omega
  have hle : le (atL Q j) (atL Q i) := (htot _ _).resolve_left hl
  refine ⟨fun k h1 h2 h3 => ?_, fun k h1 h2 h3 h4 => ?_⟩
  · rw [swapL_at hi hj', swapL_at hi hj', if_neg h3]
    by_cases e : (k - 1) / 2 = i
    · rw [if_pos e]
      by_cases e2 : k = j
      · rw [if_pos e2]; exact hle
      · rw [if_neg e2, if_neg (by omega)]; exact hb k h1 h2 e
    · rw [if_neg e]
      by_cases e2 : k = j
      · subst e2; exact absurd hp e
      · rw [if_neg e2]
        by_cases e3 : k = i
        · subst e3
          rw [if_pos rfl]
          exact h.ch j hj hjn hp h1
        · rw [if_neg e3]; exact h.ok k h1 h2 e
  · rw [swapL_at hi hj', swapL_at hi hj', hp, if_neg (by omega), if_pos rfl, if_neg (by omega), if_neg (by omega)]
    have := h.ok k h1 h2 (by omega)
    rw [h3] at this
    exact this
/-- The last entry in the first one's place. -/
theorem DnI.first {Q : List α} {n : Nat} (h : HeapN le Q (n + 1)) (hn : Q.length = n + 1) : DnI le (swapL Q 0 n) n 0 := by
  refine ⟨fun k h1 h2 h3 => ?_, fun k h1 h2 h3 h4 => absurd h4 (Nat.lt_irrefl _)⟩
  rw [swapL_at (by omega) (by omega), swapL_at (by omega) (by omega), if_neg (by omega), if_neg h3, if_neg (by omega), if_neg (by omega)]
  exact h k h1 (by omega)
end
/-! ### The queue's order -/
def qle (a b : Nat × Int × Nat) : Prop := lexLe a.2.1 a.2.2 b.2.1 b.2.2
theorem qle_refl (a : Nat × Int × Nat) : qle a a := .refl _ _
theorem qle_trans (a b c : Nat × Int × Nat) (h : qle a b) (h' : qle b c) : qle a c := h.trans h'
theorem qle_total (a b : Nat × Int × Nat) : qle a b ∨ qle b a := by unfold qle lexLe; omega
end Go.Proofs.Ytaepdkjfaeepmaa

/- Proofs that no succession is cheaper, in plain lists. No conditions. -/
set_option linter.unusedSimpArgs false
set_option linter.unusedVariables false
namespace Go.Proofs.Ytaepdkjfaeepmaa

/-- What a proof has to fulfil at a state. -/
def holdsG (g : Gr) (H : Nat → Int) (m : Nat) : Bool :=
  if H m < -1 ∨ g.safe m = false then decide (H m = -1)
  else if g.liv m = true ∧ H m ≠ 0 then false
  else (g.ways m).all fun w => !(g.safe w.1 && decide (0 ≤ H w.1) && (decide (H m < 0) || decide (H w.1 < H m - w.2)))
/-- A proof is no higher than any succession. -/
theorem proof_low {g : Gr} (hg : g.Good) {H : Nat → Int} (hH : ∀ m, m < g.N → holdsG g H m = true) {m : Nat} {c : Int} {k : Nat} (hw : Wk g m c k) (hm : m < g.N) : 0 ≤ H m ∧ H m ≤ c := by
  induction hw with
  | @fin m h1 h2 =>
    have h := hH m hm
    unfold holdsG at h
    split at h
    · rename_i h3
      rw [decide_eq_true_eq] at h
      rcases h3 with h3 | h3
      · omega
      · rw [h1] at h3; cases h3
    · split at h
      · cases h
      · rename_i h4
        by_cases e : H m = 0
        · rw [e]; exact ⟨Int.le_refl _, Int.le_refl _⟩
        · exact absurd ⟨h2, e⟩ h4
  | @step m t p c k h1 h2 h3 ih =>
    have ht := hg.ins _ _ _ hm h2
    obtain ⟨i1, i2⟩ := ih ht
    have h := hH m hm
    unfold holdsG at h
    split at h
    · rename_i h4
      rw [decide_eq_true_eq] at h
      rcases h4 with h4 | h4
      · omega
      · rw [h1] at h4; cases h4
    · rename_i h4
      split at h
      · cases h
      · have := List.all_eq_true.1 h (t, p) h2
        simp only [h3.safe, Bool.true_and, Bool.not_eq_true', Bool.and_eq_false_iff, Bool.or_eq_false_iff, decide_eq_false_iff_not] at this
        rcases this with h5 | ⟨h5, h6⟩
        · exact absurd i1 h5
        · omega
/-- What is found is a proof. -/
theorem right_holds {g : Gr} (hg : g.Good) {A : Nat → Int × Nat} (hA : ∀ m, m < g.N → Right g m (A m)) {m : Nat} (hm : m < g.N) : holdsG g (fun i => (A i).1) m = true := by
  unfold holdsG
  simp only
  have hR := hA m hm
  split
  · rename_i h1
    rw [decide_eq_true_eq]
    rcases hR with ⟨h2, h3, _⟩ | ⟨h2, _⟩
    · rcases h1 with h1 | h1
      · omega
      · rw [h3.safe] at h1; cases h1
    · rw [h2]
  · rename_i h1
    have hs : g.safe m = true := by
      cases e : g.safe m with
      | true => rfl
      | false => exact absurd (.inr e) h1
    split
    · rename_i h2
      exfalso
      have hf : Wk g m 0 0 := .fin hs h2.1
      rcases hR with ⟨h3, h4, h5⟩ | ⟨_, h5⟩
      · have := h5 _ _ hf
        unfold lexLe at this
        omega
      · exact h5 _ _ hf
    · rw [List.all_eq_true]
      rintro ⟨t, p⟩ hw
      have hT := hA t (hg.ins _ _ _ hm hw)
      simp only [Bool.not_eq_true', Bool.and_eq_false_iff, Bool.or_eq_false_iff, decide_eq_false_iff_not]
      rcases hT with ⟨h3, h4, _⟩ | ⟨h3, _⟩
      · right
        have hst : Wk g m _ _ := .step hs hw h4
        rcases hR with ⟨h5, _, h6⟩ | ⟨_, h6⟩
        · have := h6 _ _ hst
          unfold lexLe at this
          constructor <;> omega
        · exact absurd hst (h6 _ _)
      · left; right
        rw [h3]; simp
/-- Where more is safe, and more is living, whatever was a succession is one. -/
theorem Wk.more {g g' : Gr} (h1 : ∀ m, g.safe m = true → g'.safe m = true) (h2 : ∀ m, g.liv m = true → g'.liv m = true) (h3 : ∀ m, g'.ways m = g.ways m) {m : Nat} {c : Int} {k : Nat} (h : Wk g m c k) : Wk g' m c k := by
  induction h with
  | fin a b => exact .fin (h1 _ a) (h2 _ b)
  | step a b _ ih => exact .step (h1 _ a) (by rw [h3]; exact b) ih
theorem Right.easier {g g' : Gr} (h1 : ∀ m, g.safe m = true → g'.safe m = true) (h2 : ∀ m, g.liv m = true → g'.liv m = true) (h3 : ∀ m, g'.ways m = g.ways m) {m : Nat} {x y : Int × Nat} (hx : Right g m x) (hy : Right g' m y) (h : 0 ≤ x.1) : 0 ≤ y.1 ∧ y.1 ≤ x.1 := by
  rcases hx with ⟨_, hw, _⟩ | ⟨e, _⟩
  · have hw' := hw.more h1 h2 h3
    rcases hy with ⟨k1, _, k2⟩ | ⟨_, k2⟩
    · have := k2 _ _ hw'
      unfold lexLe at this
      exact ⟨k1, by omega⟩
    · exact absurd hw' (k2 _ _)
  · rw [e] at h; simp at h
end Go.Proofs.Ytaepdkjfaeepmaa
