/- Texts joined: UnG, UnH. No conditions. -/
import Derived.Test.YtjdhgaflenhljaaGreatDoorMrHD
import Derived.Test.YtjdhgaflenhljaaGreatDoorMrAAD
import Derived.Test.YtjdhgaflenhljaaGreatDoorMrHA
/- inForce: an iterator that keeps a map of its own while it yields. No conditions. -/
set_option linter.unusedSimpArgs false
set_option linter.unusedVariables false
namespace Go.Proofs.YtjdhgaflenhljaaGreatDoor
open Go Go.Proofs Go.Abs

/-- An iterator yields items to whoever keeps an invariant, and what lies behind the objects that were there at first (arenas may grow). -/
def IterK {α : Type} (P : Program) (Γ : Nat → Option (List AV)) (f : FuncId) (caps : List AV) (enc : α → List AV) (items : List α) : Prop :=
  ∀ (L : Nat) (I : List α → AH → Prop) (S : AH → Prop) (h0 : AH),
    (∀ don h l, NoLoop l → I don h → I don (h ++ l)) → (∀ h l, NoLoop l → S h → S (h ++ l)) →
    (∀ don x r h, items = don ++ x :: r → I don h → AYield P Γ L (enc x) h fun v h' => (∀ (i : Nat) (ob : AObj), h0.length ≤ i → (∀ n, ob ≠ .arena n) → h[i]? = some ob → h'[i]? = some ob) ∧ ((v = .bool true ∧ I (don ++ [x]) h') ∨ (v = .bool false ∧ S h'))) →
    I [] h0 → ACalls P Γ f ([.yield L] ++ caps) h0 fun _ h' => I items h' ∨ S h'
section
variable {P : Program} {Γ : Nat → Option (List AV)} {N : Nat} {σ : Tm} {Q : Exit → Tm → AH → Prop}
/-- **A range over such an iterator.** -/
theorem awp_iterK {α : Type} {enc : α → List AV} {items : List α} {g : Operand} {ps : Array Tmp} {assign body : Code} {gf : FuncId} {caps : List AV} (hit : IterK P Γ gf caps enc items) (hg : ev Γ σ g = .func gf [] caps)
    (K A0 : AH) (G : List α → AH → AH → Prop) (S : AH → AH → Prop) (ec : Code) (c : Nat) (hG : ∀ don A Y, G don A Y → A.length = c ∧ NoLoop A ∧ NoLoop Y) (hS : ∀ A Y, S A Y → A.length = c ∧ NoLoop A ∧ NoLoop Y)
    (aG : ∀ don A Y Z, NoLoop Z → G don A Y → G don A (Y ++ Z)) (aS : ∀ A Y Z, NoLoop Z → S A Y → S A (Y ++ Z)) (hJ : G [] A0 [])
    (yl : ∀ li : LI, li = ⟨N, σ, ps, assign, body, none⟩ → ∀ don y r A Y, items = don ++ y :: r → G don A Y → AYield P Γ (K.length + c) (enc y) (K ++ A ++ .loop .ready none li :: Y) fun v h' => ∃ A' Y', Grew Y Y' ∧ ((v = .bool true ∧ G (don ++ [y]) A' Y' ∧ h' = K ++ A' ++ .loop .ready none li :: Y') ∨ (v = .bool false ∧ S A' Y' ∧ h' = K ++ A' ++ .loop .done (some ec) li :: Y')))
    (hN : ∀ A Y, G items A Y → Q .normal σ (K ++ A ++ .dead :: Y))
    (hB : ∀ A Y, S A Y → AWP P Γ N ec Q σ (K ++ A ++ .dead :: Y)) : AWP P Γ N (.rangeFunc g ps assign body) Q σ (K ++ A0) := by
  refine awp_rangeFuncKL hg fun li hli => ?_
  have hl : ∀ A : AH, A.length = c → (K ++ A).length = K.length + c := fun A e => by rw [List.length_append, e]
  have hA0 := hG _ _ _ hJ
  rw [hl _ hA0.1]
  have nol : ∀ (A : AH) (Y : AH), A.length = c → NoLoop A → NoLoop Y → ∀ (i : Nat) (ob : AObj), (K ++ A ++ .dead :: Y)[i]? = some ob → (K ++ A0)[i]? = some ob ∨ ∀ st pe li, ob ≠ .loop st pe li := fun A Y e hA hY i ob he => by
    by_cases hi : i < K.length
    · rw [List.append_assoc, List.getElem?_append_left hi] at he
      exact .inl (by rw [List.getElem?_append_left hi]; exact he)
    · rw [List.append_assoc, List.getElem?_append_right (by omega)] at he
      right
      rcases List.mem_append.1 (List.mem_of_getElem? he) with h | h
      · exact hA ob h
      · rcases List.mem_cons.1 h with rfl | h
        · exact fun _ _ _ => by simp
        · exact hY ob h
  have kp : ∀ (A B Y Y' : AH) (a b : AObj), A.length = c → B.length = c → Grew Y Y' → ∀ (i : Nat) (ob : AObj), (K ++ A0 ++ [AObj.loop .ready none li]).length ≤ i → (∀ n, ob ≠ .arena n) → (K ++ A ++ a :: Y)[i]? = some ob → (K ++ B ++ b :: Y')[i]? = some ob := fun A B Y Y' a b hA hB hg i ob hi hn he => by
    have h0 : (K ++ A0 ++ [AObj.loop .ready none li]).length = K.length + c + 1 := by simp [hA0.1]; omega
    rw [h0] at hi
    obtain ⟨k, rfl⟩ : ∃ k, i = K.length + c + 1 + k := ⟨i - (K.length + c + 1), by omega⟩
    have e1 : ∀ (A : AH) (a : AObj) (Y : AH), A.length = c → (K ++ A ++ a :: Y)[K.length + c + 1 + k]? = Y[k]? := fun A a Y e => by
      rw [List.getElem?_append_right (by rw [hl _ e]; omega), hl _ e, show K.length + c + 1 + k - (K.length + c) = k + 1 from by omega, List.getElem?_cons_succ]
    rw [e1 _ _ _ hA] at he
    rw [e1 _ _ _ hB]
    exact hg.2 k ob he hn
  refine (hit (K.length + c) (fun don hx => ∃ A Y, G don A Y ∧ hx = K ++ A ++ .loop .ready none li :: Y) (fun hx => ∃ A Y, S A Y ∧ hx = K ++ A ++ .loop .done (some ec) li :: Y) _ ?_ ?_ ?_ ⟨A0, [], hJ, rfl⟩).mono ?_
  · rintro don hx l hl ⟨A, Y, g, rfl⟩
    exact ⟨A, Y ++ l, aG _ _ _ _ hl g, by simp⟩
  · rintro hx l hl ⟨A, Y, g, rfl⟩
    exact ⟨A, Y ++ l, aS _ _ _ hl g, by simp⟩
  · rintro don x r hx hd ⟨A, Y, g, rfl⟩
    refine (yl li hli don x r A Y hd g).mono ?_
    rintro v h' ⟨A', Y', hgr, ⟨e, g2, rfl⟩ | ⟨e, g2, rfl⟩⟩
    · exact ⟨kp _ _ _ _ _ _ (hG _ _ _ g).1 (hG _ _ _ g2).1 hgr, .inl ⟨e, _, _, g2, rfl⟩⟩
    · exact ⟨kp _ _ _ _ _ _ (hG _ _ _ g).1 (hS _ _ g2).1 hgr, .inr ⟨e, _, _, g2, rfl⟩⟩
  · rintro v h' (⟨A, Y, g, rfl⟩ | ⟨A, Y, g, rfl⟩)
    · obtain ⟨g1, g2, g3⟩ := hG _ _ _ g
      refine ⟨K ++ A, .ready, none, Y, rfl, hl _ g1, nol _ _ g1 g2 g3, by simp, ?_⟩
      rw [afterLoop_none]
      exact hN A Y g
    · obtain ⟨g1, g2, g3⟩ := hS _ _ g
      refine ⟨K ++ A, .done, some ec, Y, rfl, hl _ g1, nol _ _ g1 g2 g3, by simp, ?_⟩
      exact hB A Y g
theorem awp_iterKB {α : Type} {enc : α → List AV} {items : List α} {g : Operand} {ps : Array Tmp} {assign body : Code} {gf : FuncId} {caps : List AV} (hit : IterK P Γ gf caps enc items) (hg : ev Γ σ g = .func gf [] caps)
    (K A0 : AH) (G : List α → AH → AH → Prop) (S : AH → AH → Prop) (ec : Code) (c : Nat) (hG : ∀ don A Y, G don A Y → A.length = c ∧ NoLoop A ∧ NoLoop Y) (hS : ∀ A Y, S A Y → A.length = c ∧ NoLoop A ∧ NoLoop Y)
    (aG : ∀ don A Y Z, NoLoop Z → G don A Y → G don A (Y ++ Z)) (aS : ∀ A Y Z, NoLoop Z → S A Y → S A (Y ++ Z)) (hJ : G [] A0 [])
    (yl : ∀ li : LI, li = ⟨N, σ, ps, assign, body, none⟩ → ∀ don y r A Y, items = don ++ y :: r → G don A Y → AYield P Γ (K.length + c) (enc y) (K ++ A ++ .loop .ready none li :: Y) fun v h' => ∃ A' Y', Grew Y Y' ∧ ((v = .bool true ∧ G (don ++ [y]) A' Y' ∧ h' = K ++ A' ++ .loop .ready none li :: Y') ∨ (v = .bool false ∧ S A' Y' ∧ h' = K ++ A' ++ .loop .done (some ec) li :: Y')))
    (hq : ∀ A Y, Q .normal σ (K ++ A ++ .dead :: Y) → AWP P Γ N ec Q σ (K ++ A ++ .dead :: Y)) (hGS : ∀ A Y, G items A Y → S A Y)
    (hT : ∀ A Y, S A Y → Q .normal σ (K ++ A ++ .dead :: Y)) : AWP P Γ N (.rangeFunc g ps assign body) Q σ (K ++ A0) :=
  awp_iterK hit hg K A0 G S ec c hG hS aG aS hJ yl (fun A Y g => hT A Y (hGS A Y g)) (fun A Y g => hq A Y (hT A Y g))
end
def inForceV (l : List Vs) (fr kn : Int) : AV := .func 30 [] [.eptr [.sl (l.map encV) .free], .eptr [.int .i64 kn], .eptr [.int .i64 fr]]
set_option maxRecDepth 100000 in
theorem inForce_calls (Γ : Nat → Option (List AV)) (l : List Vs) (fr kn : Int) (h : AH) : ACalls Tryz.prog Γ 15 [.sl (l.map encV) .free, .int .i64 fr, .int .i64 kn] h fun w h' => h' = h ∧ w = inForceV l fr kn := by
  rw [inForceV]
  refine ACalls.dropL ?_
  refine ACalls.freeze ?_
  refine ACalls.freeze ?_
  refine ACalls.freeze ?_
  refine acalls_code (rs := [.tmp 6]) Tryz.func15 rfl rfl rfl rfl Ty.mixed (by kernel_rfl) ?_
  simp (disch := omega) only [go_sem, seval]
  have e1 : ∀ a b c : AObj, (h ++ [a, b, c])[h.length]? = some a := fun a b c => by simp
  have s1 : ∀ a b c d : AObj, (h ++ [a, b, c]).set h.length d = h ++ [d, b, c] := fun a b c d => by
    have : (h ++ [a, b, c]).set (h.length + 0) d = h ++ [d, b, c] := hset_add ..
    simp at this ⊢
  have s2 : ∀ a b c d : AObj, (h ++ [a, b, c]).set (h.length + 1) d = h ++ [a, d, c] := fun a b c d => hset_add ..
  have s3 : ∀ a b c d : AObj, (h ++ [a, b, c]).set (h.length + 2) d = h ++ [a, b, d] := fun a b c d => hset_add ..
  have e2 : ∀ a b c : AObj, (h ++ [a, b, c])[h.length + 1]? = some b := fun a b c => by simp
  have e3 : ∀ a b c : AObj, (h ++ [a, b, c])[h.length + 2]? = some c := fun a b c => by simp
  refine ⟨h.length, _, _, _, e1 _ _ _, Froze.set (e1 _ _ _), ?_⟩
  rw [s1]
  refine ⟨h.length + 1, _, _, _, e2 _ _ _, Froze.set (e2 _ _ _), ?_⟩
  rw [s2]
  refine ⟨h.length + 2, _, _, _, e3 _ _ _, Froze.set (e3 _ _ _), ?_⟩
  rw [s3]
  refine ⟨⟨_, rfl⟩, ?_⟩
  have ef : fzV (h.length + 2) [.int .i64 kn] (fzV (h.length + 1) [.int .i64 fr] (fzV h.length [.sl (l.map encV) .free] (.func 30 [] [.ptr (some (h.length, 0)), .ptr (some (h.length + 2, 0)), .ptr (some (h.length + 1, 0))]))) = .func 30 [] [.eptr [.sl (l.map encV) .free], .eptr [.int .i64 kn], .eptr [.int .i64 fr]] := by
    simp [fzV, fzL]
  rw [ef]
  simp only [loose, looseL, loose_Vs]
  exact ⟨.func (RBs.nil _) (RBs.cons (.eptr (RBs.cons (of_eq_true (rb_Vs _ _)) (RBs.nil _))) (RBs.cons (.eptr (RBs.cons (.int _ _) (RBs.nil _))) (RBs.cons (.eptr (RBs.cons (.int _ _) (RBs.nil _))) (RBs.nil _)))), trivial⟩
def encKV (p : Int × Vs) : List AV := [.int .i64 p.1, encV p.2]
def itemsF (l : List Vs) (fr kn : Int) : List (Int × Vs) := (So.sortI (inF fr kn l).ks).map fun k => (k, (inF fr kn l).f k)
theorem NoLoop.map1 (es : List (Nat × AV × AV)) (c : Nat) : NoLoop [.map es c] := fun ob ho st pe lj e => by rw [List.mem_singleton] at ho; subst ho; cases e
set_option maxHeartbeats 2000000 in
set_option maxRecDepth 100000 in
theorem inForce1_calls (Γ : Nat → Option (List AV)) (l : List Vs) (fr kn : Int) (hl : l.length ≤ 12) (h0 : ∀ x ∈ l, 0 ≤ x.tm) :
    IterK Tryz.prog Γ 30 [.eptr [.sl (l.map encV) .free], .eptr [.int .i64 kn], .eptr [.int .i64 fr]] encKV (itemsF l fr kn) := by
  intro L I S hh HA HS HY hI
  have hII := inF_I fr kn l h0
  refine acalls_code (rs := []) Tryz.func30 rfl rfl rfl rfl Ty.mixed (by kernel_rfl) ?_
  simp (disch := omega) only [go_sem, seval, List.length_map]
  refine awp_loopL (β := IfS × AH) l [0, 1, 2, 3, 5, 6, 13, 14, 15] (fun don b => [(0, .yield L), (1, .eptr [.sl (l.map encV) .free]), (2, .eptr [.int .i64 kn]), (3, .eptr [.int .i64 fr]), (5, .map (some hh.length)), (6, .int .i64 b.1.b), (13, .sl (l.map encV) .free), (14, .int .i64 l.length), (15, .int .i64 don.length)])
    (fun b => hh ++ .map (So.entsA (fun k => encV (b.1.f k)) 0 b.1.ks) b.1.ks.length :: b.2) (fun don r b => IfI fr kn don b.1 ∧ r.foldl (ifStep fr kn) b.1 = inF fr kn l ∧ NoLoop b.2) (⟨-1, [], fun _ => dV⟩, []) ?_ ?_ ?_ Ty.mixed (by kernel_rfl) ?_ ?_
  · simp (disch := omega) only [go_sem, seval, List.length_nil]
  · simp [So.entsA]
  · exact ⟨⟨.nil, fun _ h => by simp at h, fun k _ => by simp, by simp [forceV], fun _ h => by simp at h, rfl, by simp⟩, rfl, NoLoop.none⟩
  · rintro don x r ⟨s, j⟩ hd ⟨hs, hf, hj⟩
    simp only at hs hf hj ⊢
    have hlen : l.length = don.length + 1 + r.length := by rw [hd]; simp; omega
    have e1 : (l.map encV)[don.length]? = some (encV x) := by rw [hd]; exact rowMid ..
    have hx0 := h0 x (by rw [hd]; simp)
    rw [encV_eq] at e1
    simp (disch := omega) only [go_sem, seval, List.length_map]
    refine aIf.pos (by omega) ?_
    simp (disch := omega) only [go_sem, seval, e1, List.length_map]
    rw [List.foldl_cons] at hf
    have hst := hs.step x hx0
    have hn1 := hs.n
    refine aIf.intro (fun h1 => ?_) (fun h1 => ?_) <;> simp (disch := omega) only [go_sem, seval]
    · have e2 : ifStep fr kn s x = s := by rw [ifStep, if_pos h1]
      rw [e2] at hf hst
      refine roundL_next (s, j ++ [rowV x]) ⟨hst, hf, hj.app2 (NoLoop.row1 _ _)⟩ ?_ ?_
      · simp (disch := omega) only [go_sem, seval, List.length_append]
      · simp [rowV]
    refine aIf.intro (fun h2 => ?_) (fun h2 => ?_) <;> simp (disch := omega) only [go_sem, seval]
    · refine aIf.intro (fun h3 => ?_) (fun h3 => ?_) <;> simp (disch := omega) only [go_sem, seval]
      · have e2 : ifStep fr kn s x = s := by rw [ifStep, if_neg h1, if_pos h2, if_pos h3]
        rw [e2] at hf hst
        refine roundL_next (s, j ++ [rowV x]) ⟨hst, hf, hj.app2 (NoLoop.row1 _ _)⟩ ?_ ?_
        · simp (disch := omega) only [go_sem, seval, List.length_append]
        · simp [rowV]
      · have e2 : ifStep fr kn s x = ⟨x.tm, So.addK fr s.ks, fun k => if k = fr then x else s.f k⟩ := by rw [ifStep, if_neg h1, if_pos h2, if_neg h3]
        rw [e2] at hf hst
        have hp := So.put_entsA (f := fun k => encV (s.f k)) (f' := fun k => encV (if k = fr then x else s.f k)) fr s.ks hs.nd (fun y hy => by simp [hy])
        rw [if_pos rfl, encV_eq x] at hp
        refine (congrArg (fun z => aMuR z _ _ _) hp).mpr ?_
        simp (disch := omega) only [go_sem, seval]
        refine roundL_next (⟨x.tm, So.addK fr s.ks, fun k => if k = fr then x else s.f k⟩, j ++ [rowV x]) ⟨hst, hf, hj.app2 (NoLoop.row1 _ _)⟩ ?_ ?_
        · simp (disch := omega) only [go_sem, seval, List.length_append]
        · simp [rowV]
    · have e2 : ifStep fr kn s x = ⟨s.b, So.addK x.tm s.ks, fun k => if k = x.tm then x else s.f k⟩ := by rw [ifStep, if_neg h1, if_neg h2]
      rw [e2] at hf hst
      have hp := So.put_entsA (f := fun k => encV (s.f k)) (f' := fun k => encV (if k = x.tm then x else s.f k)) x.tm s.ks hs.nd (fun y hy => by simp [hy])
      rw [if_pos rfl, encV_eq x] at hp
      refine (congrArg (fun z => aMuR z _ _ _) hp).mpr ?_
      simp (disch := omega) only [go_sem, seval]
      refine roundL_next (⟨s.b, So.addK x.tm s.ks, fun k => if k = x.tm then x else s.f k⟩, j ++ [rowV x]) ⟨hst, hf, hj.app2 (NoLoop.row1 _ _)⟩ ?_ ?_
      · simp (disch := omega) only [go_sem, seval, List.length_append]
      · simp [rowV]
  · rintro ⟨s, j⟩ ⟨hs, hf, hj⟩
    simp only at hs hf hj ⊢
    simp (disch := omega) only [go_sem, seval, List.length_map]
    have hn1 := hs.n
    rw [List.foldl_nil] at hf
    subst hf
    refine AWP.keep [0, 5] (aCode_ok Ty.mixed _ _ _ _ (by kernel_rfl) ?_)
    simp (disch := omega) only [go_sem, seval]
    refine ACalls.detH (So.keysS_calls Γ hh.length _) ?_
    simp (disch := omega) only [go_sem, seval]
    obtain ⟨M, hM⟩ : ∃ M : AObj, M = .map (So.entsA (fun k => encV ((inF fr kn l).f k)) 0 (inF fr kn l).ks) (inF fr kn l).ks.length := ⟨_, rfl⟩
    obtain ⟨X, hX⟩ : ∃ X : AH, X = .map (So.entsA (fun k => encV ((inF fr kn l).f k)) 0 (inF fr kn l).ks) (inF fr kn l).ks.length :: (j ++ [.row [.map (some hh.length)] 69]) := ⟨_, rfl⟩
    have hXn : NoLoop X := by
      rw [hX]
      exact (NoLoop.map1 _ _).app2 (hj.app2 (NoLoop.row1 _ _))
    rw [← hX]
    have gM : (hh ++ X)[hh.length]? = some (.map (So.entsA (fun k => encV ((inF fr kn l).f k)) 0 (inF fr kn l).ks) (inF fr kn l).ks.length) := by rw [hX]; simp
    have gC : (hh ++ X)[hh.length + (j.length + 1)]? = some (.row [.map (some hh.length)] 69) := by rw [hX, hget_add]; simp
    refine ACalls.det (So.sortedS_calls Γ hh.length _ _ _ _ gM gC (by omega)) ?_
    have hperm := So.sortI_perm (inF fr kn l).ks
    rw [itemsF] at HY ⊢
    generalize hK : So.sortI (inF fr kn l).ks = K at hperm HY ⊢
    have hKl : K.length ≤ 12 := by rw [hperm.length_eq]; omega
    obtain ⟨f, hf⟩ : ∃ f, f = (inF fr kn l).f := ⟨_, rfl⟩
    obtain ⟨ks, hks⟩ : ∃ ks, ks = (inF fr kn l).ks := ⟨_, rfl⟩
    rw [← hf] at HY gM ⊢
    rw [← hks] at hperm gM
    simp (disch := omega) only [go_sem, seval, encI_len]
    refine awp_loopV K [0, 5, 39, 40, 41] (fun don => [(0, .yield L), (5, .map (some hh.length)), (39, .sl (encI K) .free), (40, .int .i64 K.length), (41, .int .i64 don.length)])
      (fun don _ h => I (don.map fun k => (k, f k)) h ∧ h[hh.length]? = some (.map (So.entsA (fun k => encV (f k)) 0 ks) ks.length)) ?_ ⟨HA _ _ _ hXn hI, gM⟩ ?_ ?_
    · simp (disch := omega) only [go_sem, seval, List.length_nil]
    · rintro don k r h hd ⟨hIh, gh⟩
      have hlen : K.length = don.length + 1 + r.length := by rw [hd]; simp; omega
      have e1 : (encI K)[don.length]? = some (.int .i64 k) := by rw [hd]; exact encI_get don r k
      have hkm : k ∈ ks := hperm.mem_iff.1 (by rw [hd]; simp)
      refine awp_seq (aCode_ok Ty.mixed _ _ _ _ (by kernel_rfl) ?_)
      simp (disch := omega) only [go_sem, seval]
      refine awp_seq (aCode_ok Ty.mixed _ _ _ _ (by kernel_rfl) ?_)
      simp (disch := omega) only [go_sem, seval]
      refine aIf.pos (by omega) ?_
      simp (disch := omega) only [go_sem, seval]
      refine awp_seq (awp_block ?_)
      refine awp_seq (aCode_ok Ty.mixed _ _ _ _ (by kernel_rfl) ?_)
      simp (disch := omega) only [go_sem, seval, e1, encI_len]
      refine aCode_ok Ty.mixed _ _ _ _ (by kernel_rfl) ?_
      simp (disch := omega) only [go_sem, seval, gh]
      show aLkO false _ (.int .i64 k) (some (.map (So.entsA (fun k => encV (f k)) 0 ks) ks.length)) _
      rw [So.look_entsA, if_pos hkm]
      simp (disch := omega) only [go_sem, seval]
      have ei : K.map (fun k => (k, f k)) = don.map (fun k => (k, f k)) ++ (k, f k) :: r.map fun k => (k, f k) := by rw [hd, List.map_append, List.map_cons]
      refine (HY _ _ _ _ ei hIh).mono ?_
      rintro w h2 ⟨kp, ⟨rfl, hI2⟩ | ⟨rfl, hS2⟩⟩ <;> simp (disch := omega) only [go_sem, seval]
      · refine aCode_ok Ty.mixed _ _ _ _ (by kernel_rfl) ?_
        simp (disch := omega) only [go_sem, seval, List.length_append]
        refine ⟨?_, kp _ _ (Nat.le_refl _) (fun n e => by cases e) gh⟩
        rw [List.map_append, List.map_cons, List.map_nil]
        exact hI2
      · exact .inr hS2
    · rintro h ⟨hIh, gh⟩
      refine aCode_ok Ty.mixed _ _ _ _ (by kernel_rfl) ?_
      simp (disch := omega) only [go_sem, seval, encI_len]
      exact .inl hIh
end Go.Proofs.YtjdhgaflenhljaaGreatDoor

/- Judges. No conditions. -/
set_option linter.unusedSimpArgs false
set_option linter.unusedVariables false
namespace Go.Proofs.YtjdhgaflenhljaaGreatDoor
open Go Go.Proofs Go.Abs

/-- What is met: the items up to a time. -/
def metI (at_ : Int) (items : List (Int × Vs)) : List (Int × Vs) := items.takeWhile fun p => decide (p.1 ≤ at_)
theorem metI_all {at_ : Int} : ∀ {items : List (Int × Vs)}, (∀ p ∈ items, p.1 ≤ at_) → metI at_ items = items
  | [], _ => rfl
  | p :: r, h => by
    rw [metI, List.takeWhile_cons_of_pos (by exact decide_eq_true (h p (by simp)))]
    exact congrArg _ (metI_all (items := r) fun q hq => h q (by simp [hq]))
theorem metI_cut {at_ : Int} {y : Int × Vs} {r : List (Int × Vs)} (hy : at_ < y.1) : ∀ {don : List (Int × Vs)}, (∀ p ∈ don, p.1 ≤ at_) → metI at_ (don ++ y :: r) = don
  | [], _ => by rw [List.nil_append, metI, List.takeWhile_cons_of_neg (by simp; omega)]
  | p :: r', h => by
    rw [List.cons_append, metI, List.takeWhile_cons_of_pos (by exact decide_eq_true (h p (by simp)))]
    exact congrArg _ (metI_cut hy (don := r') fun q hq => h q (by simp [hq]))
def oldF (begun : Int) (don : List (Int × Vs)) : Bool := don.any fun p => decide (p.1 = begun)
theorem metI_met (l : List Vs) (begun at_ kn : Int) : (metI at_ (itemsF l begun kn)).map Prod.snd = metV l begun at_ kn := by
  rw [metI, itemsF, List.takeWhile_map, List.map_map, metV, keysF]
  rfl
theorem metI_old (l : List Vs) (begun at_ kn : Int) : oldF begun (metI at_ (itemsF l begun kn)) = decide (begun ∈ keysF l begun at_ kn) := by
  rw [metI, itemsF, List.takeWhile_map, oldF, List.any_map, keysF]
  rw [Bool.eq_iff_iff, List.any_eq_true, decide_eq_true_eq]
  constructor
  · rintro ⟨x, h1, h2⟩
    simp only [Function.comp_apply, decide_eq_true_eq] at h2
    subst h2; exact h1
  · exact fun h1 => ⟨_, h1, by simp⟩
theorem NoLoop.setA {j : AH} (h : NoLoop j) (q n : Nat) : NoLoop (j.set q (.arena n)) := fun ob ho st pe li e => by
  rcases List.mem_or_eq_of_mem_set ho with ho | rfl
  · exact h ob ho st pe li e
  · cases e
theorem aAp_slN {n by_ : Nat} {rows xs : List AV} {own o : Abs.Own} {K j : AH} {C : AV → AH → Prop} (ho : OwnAt K j rows.length own) (h1 : RowsOK n rows) (h2 : RowsOK n xs)
    (h3 : rows.length + xs.length ≤ 9223372036854775807) (h4 : (rows.length + xs.length) * by_ ≤ 140737488355328) (hj : NoLoop j)
    (H : ∀ j' own', OwnAt K j' (rows.length + xs.length) own' → Grew j j' → NoLoop j' → C (.sl (rows ++ xs) own') (K ++ j')) : aAp (some (n, by_)) (.sl rows own) (.sl xs o) (K ++ j) C := by
  refine ⟨xs, rfl, h1, h2, h3, h4, ?_⟩
  cases own with
  | free => exact ho.elim
  | full =>
    have := H (j ++ [.arena (rows.length + xs.length)]) (.arena (K.length + j.length)) ⟨j.length, rfl, by simp⟩ ⟨by simp, fun i o e _ => hget_left _ e⟩ (hj.app2 fun ob ho st pe li e => by rw [List.mem_singleton] at ho; subst ho; cases e)
    simpa [List.append_assoc] using this
  | arena i =>
    obtain ⟨i', rfl, e⟩ := ho
    have e' : (K ++ j)[K.length + i']? = some (.arena rows.length) := by rw [hget_add]; exact e
    show (match (K ++ j)[K.length + i']? with
      | some (.arena m) => m = rows.length ∧ C (.sl (rows ++ xs) (.arena (K.length + i'))) ((K ++ j).set (K.length + i') (.arena (rows.length + xs.length)))
      | _ => False)
    rw [e']
    refine ⟨rfl, ?_⟩
    rw [hset_add]
    have hi : i' < j.length := (List.getElem?_eq_some_iff.1 e).1
    refine H _ _ ⟨i', rfl, by rw [List.getElem?_set_self hi]⟩ ⟨by simp, fun k o ek hk => ?_⟩ (NoLoop.setA hj _ _)
    rw [List.getElem?_set]
    split
    · rename_i hik
      subst hik
      rw [e] at ek; cases ek
      exact absurd rfl (hk _)
    · exact ek
/-- The rows of the two variables, and what lies behind. -/
structure JG (b : Nat) (don : List (Int × Vs)) (begun at_ : Int) (A Y : AH) : Prop where
  own : ∃ own, A = [.row [.sl ((don.map Prod.snd).map encV) own] 22, .row [.bool (oldF begun don)] 4] ∧ OwnAt (List.replicate b .dead) Y don.length own
  nl : NoLoop Y
  le : ∀ p ∈ don, p.1 ≤ at_
theorem lk_sub (σ : Tm) : ∀ (σ' : Tm), (∀ p ∈ σ', lk σ p.1 = p.2) → ∀ i, lk σ' i = lk σ i ∨ lk σ' i = .top
  | [], _, i => .inr rfl
  | (j, v) :: r, h, i => by
    rw [lk_cons]
    split
    · rename_i e; subst e; exact .inl (h (i, v) (by simp)).symm
    · exact lk_sub σ r (fun p hp => h p (by simp [hp])) i
theorem jall_calls (Γ : Nat → Option (List AV)) (mode : Int) (hm : 1 ≤ mode ∧ mode ≤ 4) (m : List Vs) (old : Bool) (hl : 1 ≤ m.length) (hl2 : m.length ≤ 1000) :
    ∃ f, mGet mode jdgM = some (.func f [] []) ∧ ∀ h, ACalls Tryz.prog Γ f [.sl (m.map encV) .free, .bool old] h fun v h' => h' = h ∧ v = .sl ((jdgF mode old m).map encV) .free := by
  rw [jdg_get]
  obtain rfl | rfl | e : mode = 1 ∨ mode = 2 ∨ (mode = 3 ∨ mode = 4) := by omega
  · exact ⟨_, rfl, fun h => j2_calls Γ m old h hl⟩
  · exact ⟨_, rfl, fun h => j3_calls Γ m old h hl (by omega)⟩
  · refine ⟨33, by rw [if_neg (by omega), if_neg (by omega), if_pos e], fun h => ?_⟩
    rw [jdgF, if_neg (by omega), if_neg (by omega)]
    exact j1_calls Γ m old h
theorem isTimeF_calls (Γ : Nat → Option (List AV)) (n : Int) (h : AH) : ACalls Tryz.prog Γ 14 [.int .i64 n] h fun v h' => h' = h ∧ v = .bool (timeF n) :=
  (isTime_calls Γ n h).mono fun v h' ⟨h1, h2⟩ => ⟨h1, by rw [h2, timeF]; congr 1; apply decide_eq_decide.2; omega⟩
set_option maxHeartbeats 2000000 in
set_option maxRecDepth 100000 in
theorem judges0_calls (Γ : Nat → Option (List AV)) (hΓ : Γ 0 = some kindsC) (l : List Vs) (begun at_ kn : Int) (h : AH) (C : VsC l) (hs : chkAll l = 0 → l.length ≤ 12) :
    ACalls Tryz.prog Γ 6 [.sl (l.map encV) .free, .int .i64 begun, .int .i64 at_, .int .i64 kn] h fun v h' => h' = h ∧ v = .tuple [.sl (encI (judgesF l begun at_ kn).1) .free, .int .i64 (judgesF l begun at_ kn).2.1, .int .i64 (judgesF l begun at_ kn).2.2] := by
  have c1 := fun h => checkAll_calls Γ hΓ l h C
  have hd : judgesF l begun at_ kn = if chkAll l ≠ 0 then ([], 0, chkAll l) else if timeF begun = true ∧ timeF at_ = true ∧ timeF kn = true ∧ begun ≤ at_ then ((judF l begun at_ kn).1, (judF l begun at_ kn).2, 0) else ([], 0, 1) := rfl
  refine So.ACalls.endM ?_
  refine acalls_code (rs := [.tmp 8, .tmp 9, .tmp 10]) Tryz.func6 rfl rfl rfl rfl Ty.mixed (by kernel_rfl) ?_
  simp (disch := omega) only [go_sem, seval]
  refine ACalls.det (c1 _) ?_
  simp (disch := omega) only [go_sem, seval]
  refine aIf.intro (fun h1 => ?_) (fun h1 => ?_) <;> simp (disch := omega) only [go_sem, seval]
  rotate_left
  · rw [if_pos h1] at hd
    rw [hd]
    exact .inl rfl
  rw [if_neg (by omega)] at hd
  have hl12 := hs h1
  have hG := chkAll_ok h1
  have ct := fun n h => isTimeF_calls Γ n h
  have hbad : ¬ (timeF begun = true ∧ timeF at_ = true ∧ timeF kn = true ∧ begun ≤ at_) → judgesF l begun at_ kn = ([], 0, 1) := fun e => by rw [hd, if_neg e]
  have bad : ¬ (timeF begun = true ∧ timeF at_ = true ∧ timeF kn = true ∧ begun ≤ at_) → (AV.tuple [.sl [] .free, .int .i64 0, .int .i64 1]) = .tuple [.sl (encI (judgesF l begun at_ kn).1) .free, .int .i64 (judgesF l begun at_ kn).2.1, .int .i64 (judgesF l begun at_ kn).2.2] := fun e => by rw [hbad e]; rfl
  refine ACalls.det (ct _ _) ?_
  cases h2 : timeF begun <;> simp (disch := omega) only [go_sem, seval]
  · exact .inl (bad (by rw [h2]; simp))
  refine ACalls.det (ct _ _) ?_
  cases h3 : timeF at_ <;> simp (disch := omega) only [go_sem, seval]
  · exact .inl (bad (by rw [h3]; simp))
  refine ACalls.det (ct _ _) ?_
  cases h4 : timeF kn <;> simp (disch := omega) only [go_sem, seval]
  · exact .inl (bad (by rw [h4]; simp))
  refine aIf.intro (fun h5 => ?_) (fun h5 => ?_) <;> simp (disch := omega) only [go_sem, seval]
  · exact .inl (bad (by omega))
  rw [if_pos ⟨h2, h3, h4, by omega⟩] at hd
  refine ACalls.det (inForce_calls Γ l begun kn _) ?_
  have c2 := inForce1_calls Γ l begun kn hl12 (fun x hx => (hG.x x hx).2.1)
  rw [inForceV]
  simp (disch := omega) only [go_sem, seval]
  refine AWP.keep [5, 6, 8, 9, 10, 11, 12, 43] ?_
  simp (disch := omega) only [go_sem, seval]
  obtain ⟨K, hK⟩ : ∃ K : AH, K = h ++ [.row [.int .i64 begun] 3, .row [.int .i64 at_] 3] := ⟨_, rfl⟩
  have hKl : K.length = h.length + 2 := by rw [hK]; simp
  have hKb : ∀ l, (K ++ l)[h.length]? = some (.row [.int .i64 begun] 3) := fun l => by rw [hK]; simp
  have hKa : ∀ l, (K ++ l)[h.length + 1]? = some (.row [.int .i64 at_] 3) := fun l => by rw [hK]; simp
  rw [show h ++ [.row [.int .i64 begun] 3, .row [.int .i64 at_] 3, .row [.sl [] .full] 22, .row [.bool false] 4] = K ++ [.row [.sl [] .full] 22, .row [.bool false] 4] from by rw [hK]; simp]
  rw [show h.length + 3 = K.length + 1 from by omega, ← hKl]
  have hnl : ∀ v b, NoLoop [.row [v] 22, .row [b] 4] := fun v b => (NoLoop.row1 [v] 22).app2 (NoLoop.row1 [b] 4)
  refine awp_iterKB c2 rfl K _ (fun don A Y => JG (K.length + 3) don begun at_ A Y) (fun A Y => JG (K.length + 3) (metI at_ (itemsF l begun kn)) begun at_ A Y) (.exit 0) 2 ?_ ?_ ?_ ?_ ⟨⟨.full, rfl, trivial⟩, NoLoop.none, fun p hp => by simp at hp⟩ ?_ ?_ ?_ ?_
  · rintro don A Y ⟨⟨own, rfl, _⟩, hY, _⟩
    exact ⟨rfl, hnl _ _, hY⟩
  · rintro A Y ⟨⟨own, rfl, _⟩, hY, _⟩
    exact ⟨rfl, hnl _ _, hY⟩
  · rintro don A Y Z hZ ⟨⟨own, rfl, ho⟩, hY, hle⟩
    exact ⟨⟨own, rfl, ho.app _⟩, hY.app2 hZ, hle⟩
  · rintro A Y Z hZ ⟨⟨own, rfl, ho⟩, hY, hle⟩
    exact ⟨⟨own, rfl, ho.app _⟩, hY.app2 hZ, hle⟩
  · rintro li hli don ⟨k, x⟩ r A Y hdn ⟨⟨own, rfl, hown⟩, hY, hle⟩
    rw [encKV, encV_eq]
    simp only
    refine ayield_L hli (by rw [List.append_assoc, List.getElem?_append_right (by omega)]; simp) (by kernel_rfl) rfl Ty.mixed (by kernel_rfl) (by kernel_rfl) ?_
    simp (disch := omega) only [go_sem, seval, List.append_assoc, List.cons_append, List.nil_append, hKb, hKa]
    refine aIf.intro (fun h6 => ?_) (fun h6 => ?_) <;> simp (disch := omega) only [go_sem, seval, List.append_assoc, List.cons_append, List.nil_append, hKb, hKa]
    · refine ⟨[.row [.sl ((don.map Prod.snd).map encV) own] 22, .row [.bool (oldF begun don)] 4], Y ++ [rowV x], ⟨by simp, fun i ob e _ => hget_left _ e⟩, .inr ⟨?_, ?_⟩⟩
      · rw [hdn, metI_cut h6 hle]
        exact ⟨⟨own, rfl, hown.app _⟩, hY.app2 (NoLoop.row1 _ _), hle⟩
      · simp [rowV]
    have hon : oldF begun (don ++ [(k, x)]) = (oldF begun don || decide (k = begun)) := by simp [oldF]
    have hlen : (don ++ [(k, x)]).length ≤ 12 := by
      have h7 := congrArg List.length hdn
      rw [itemsF, List.length_map, (So.sortI_perm _).length_eq] at h7
      have := (inF_I begun kn l (fun x hx => (hG.x x hx).2.1)).n
      simp at h7 ⊢; omega
    cases ho : oldF begun don <;> rw [ho] at hon <;> simp (disch := omega) only [go_sem, seval, List.append_assoc, List.cons_append, List.nil_append, hKb, hKa]
    · have el : ∀ Y' : AH, K ++ .row [.sl ((don.map Prod.snd).map encV) own] 22 :: .row [.bool (decide (k = begun))] 4 :: .loop .busy none li :: Y' = (K ++ [.row [.sl ((don.map Prod.snd).map encV) own] 22, .row [.bool (decide (k = begun))] 4, .loop .busy none li]) ++ Y' := fun Y' => by simp
      rw [el, ← encV_eq]
      refine aAp_slN (xs := [x].map encV) (OwnAt.len (K := List.replicate (K.length + 3) .dead) (by simpa using hown.app _) (by simp)) (rowsOK_V _) (rowsOK_V [x]) (by simp at hlen ⊢; omega) (by simp at hlen ⊢; omega) (hY.app2 (NoLoop.row1 _ _)) fun Y' own' ho' hg hnY => ?_
      simp (disch := omega) only [go_sem, seval, List.append_assoc, List.cons_append, List.nil_append]
      refine ⟨[.row [.sl (((don ++ [(k, x)]).map Prod.snd).map encV) own'] 22, .row [.bool (decide (k = begun))] 4], Y', ⟨by have := hg.1; simp at this; omega, fun i ob e hne => hg.2 i ob (hget_left _ e) hne⟩, .inl ⟨⟨⟨own', by rw [hon]; rfl, ?_⟩, hnY, ?_⟩, ?_⟩⟩
      · refine OwnAt.len (K := K ++ [.row [.sl ((don.map Prod.snd).map encV) own] 22, .row [.bool (decide (k = begun))] 4, .loop .busy none li]) ?_ (by simp)
        simpa using ho'
      · intro p hp
        rcases List.mem_append.1 hp with hp | hp
        · exact hle p hp
        · rw [List.mem_singleton] at hp; subst hp; simp only; omega
      · simp
    · have el : ∀ Y' : AH, K ++ .row [.sl ((don.map Prod.snd).map encV) own] 22 :: .row [.bool true] 4 :: .loop .busy none li :: Y' = (K ++ [.row [.sl ((don.map Prod.snd).map encV) own] 22, .row [.bool true] 4, .loop .busy none li]) ++ Y' := fun Y' => by simp
      rw [el, ← encV_eq]
      refine aAp_slN (xs := [x].map encV) (OwnAt.len (K := List.replicate (K.length + 3) .dead) (by simpa using hown.app _) (by simp)) (rowsOK_V _) (rowsOK_V [x]) (by simp at hlen ⊢; omega) (by simp at hlen ⊢; omega) (hY.app2 (NoLoop.row1 _ _)) fun Y' own' ho' hg hnY => ?_
      simp (disch := omega) only [go_sem, seval, List.append_assoc, List.cons_append, List.nil_append]
      refine ⟨[.row [.sl (((don ++ [(k, x)]).map Prod.snd).map encV) own'] 22, .row [.bool true] 4], Y', ⟨by have := hg.1; simp at this; omega, fun i ob e hne => hg.2 i ob (hget_left _ e) hne⟩, .inl ⟨⟨⟨own', by rw [hon]; rfl, ?_⟩, hnY, ?_⟩, ?_⟩⟩
      · refine OwnAt.len (K := K ++ [.row [.sl ((don.map Prod.snd).map encV) own] 22, .row [.bool true] 4, .loop .busy none li]) ?_ (by simp)
        simpa using ho'
      · intro p hp
        rcases List.mem_append.1 hp with hp | hp
        · exact hle p hp
        · rw [List.mem_singleton] at hp; subst hp; simp only; omega
      · simp
  · intro A Y hq
    refine aCode_ok Ty.mixed _ _ _ _ (by kernel_rfl) ?_
    simp (disch := omega) only [go_sem, seval] at hq ⊢
    exact hq
  · intro A Y g
    rw [metI_all g.le]; exact g
  rintro A Y ⟨⟨own, rfl, hown⟩, hY, hle⟩
  simp (disch := omega) only [go_sem, seval]
  have hmet : (metI at_ (itemsF l begun kn)).map Prod.snd = metV l begun at_ kn := metI_met l begun at_ kn
  have hold := metI_old l begun at_ kn
  have hml : (metV l begun at_ kn).length ≤ 12 := by
    rw [← hmet, List.length_map]
    have h7 : (metI at_ (itemsF l begun kn)).length ≤ (itemsF l begun kn).length := (List.takeWhile_sublist _).length_le
    rw [itemsF, List.length_map, (So.sortI_perm _).length_eq] at h7
    have := (inF_I begun kn l (fun x hx => (hG.x x hx).2.1)).n
    rw [itemsF]; omega
  rw [hold, hmet]
  have hown2 : OwnAt (List.replicate (K.length + 3) .dead) Y (metV l begun at_ kn).length own := by rw [← hmet, List.length_map]; exact hown
  refine awp_seq (aCode_ok Ty.mixed _ _ _ _ (by kernel_rfl) ?_)
  simp (disch := omega) only [go_sem, seval, List.length_map]
  refine aIf.intro (fun h6 => ?_) (fun h6 => ?_) <;> simp (disch := omega) only [go_sem, seval]
  · have hm0 : metV l begun at_ kn = [] := List.eq_nil_of_length_eq_zero (by omega)
    rw [judF, if_pos hm0] at hd
    refine ⟨⟨_, by rw [hK, List.append_assoc]⟩, .inl ?_⟩
    rw [hd]; rfl
  obtain ⟨m, hm⟩ : ∃ m, m = metV l begun at_ kn := ⟨_, rfl⟩
  rw [← hm] at hml hown2 h6 ⊢
  have hj : judF l begun at_ kn = (So.sortI ((jdgF (modeL m) (decide (begun ∈ keysF l begun at_ kn)) m).map Vs.no), modeL m) := by
    rw [judF, ← hm, if_neg (fun e => h6 (by rw [e]; rfl))]
  obtain ⟨old, ho⟩ : ∃ old, old = decide (begun ∈ keysF l begun at_ kn) := ⟨_, rfl⟩
  rw [← ho] at hj ⊢
  obtain ⟨x, hx⟩ : ∃ x, m[m.length - 1]? = some x := ⟨m[m.length - 1]'(by omega), List.getElem?_eq_getElem _⟩
  have hmx : modeL m = x.p.mode := by rw [modeL, List.getLast?_eq_getElem?, hx]; rfl
  have hxm := List.mem_of_getElem? hx
  have hnn : ((m.length : Int) - 1).toNat = m.length - 1 := by omega
  have e1 : (m.map encV)[m.length - 1]? = some (encV x) := by rw [List.getElem?_map, hx]; rfl
  rw [encV_eq] at e1
  have hmode : 1 ≤ x.p.mode ∧ x.p.mode ≤ 4 := by
    have h7 : x ∈ l := by
      rw [hm, metV, List.mem_map] at hxm
      obtain ⟨k, hk, rfl⟩ := hxm
      have hk2 : k ∈ (inF begun kn l).ks := (So.sortI_perm _).mem_iff.1 ((List.takeWhile_sublist _).subset hk)
      exact (force_mem ((inF_I begun kn l (fun x hx => (hG.x x hx).2.1)).f k hk2)).1
    have := check_lens (hG.x x h7).2.2.2
    omega
  rw [← hmx] at hmode
  refine awp_seq (aCode_ok Ty.mixed _ _ _ _ (by kernel_rfl) ?_)
  simp (disch := omega) only [go_sem, seval, List.length_map]
  refine ⟨by omega, ?_⟩
  rw [hnn, e1]
  simp (disch := omega) only [go_sem, seval]
  rw [← hmx]
  obtain ⟨f, hf1, hf2⟩ := jall_calls Γ (modeL m) hmode m old (by omega) (by omega)
  obtain ⟨B, hB⟩ : ∃ B, B = K ++ AObj.row [.sl (m.map encV) own] 22 :: .row [.bool old] 4 :: .dead :: Y := ⟨_, rfl⟩
  rw [← hB]
  refine awp_seq (awp_seq ?_)
  obtain ⟨H, hH⟩ : ∃ H : List Nat → AH, H = fun done => if 0 ∈ done then B ++ [jdgO] else B := ⟨_, rfl⟩
  have H0 : B = H [] := by rw [hH]; simp
  rw [H0]
  refine awp_any_vals [[], [], [0, 1], [], [], [2, 3, 4], [5], []] [8, 9, 11, 12] (fun q => [.map (some B.length), .int .i64 (modeL m), .func f [] [], .sl (m.map encV) own, .bool old, .sl ((jdgF (modeL m) old m).map encV) .free, .int .i64 (jdgF (modeL m) old m).length, .int .i64 0].getD q .top) H Ty.mixed (by kernel_rfl) (by kernel_rfl) (by kernel_rfl) (by kernel_rfl) ?_ ?_
  · intro q o ho' done σ hd' _ hni hf hv C hC
    have f9 : lk σ 9 = .int .i64 (modeL m) := (hf 9 (by decide)).trans rfl
    have f11 : lk σ 11 = .ptr (some (K.length, 0)) := (hf 11 (by decide)).trans rfl
    have f12 : lk σ 12 = .ptr (some (K.length + 1, 0)) := (hf 12 (by decide)).trans rfl
    have e11 : (H done)[K.length]? = some (.row [.sl (m.map encV) own] 22) := by
      rw [hH]; simp only; rw [hB]; split <;> simp
    have e12 : (H done)[K.length + 1]? = some (.row [.bool old] 4) := by
      rw [hH]; simp only; rw [hB]; split <;> simp
    have eH : ∀ q, q ≠ 0 → H (q :: done) = H done := fun q hq => by
      rw [hH]; simp only [List.mem_cons]; simp [Ne.symm hq]
    rcases q with _ | _ | _ | _ | _ | _ | _ | _ | q
    all_goals simp only [List.getElem?_toArray, List.getElem?_cons_zero, List.getElem?_cons_succ, Option.some.injEq, List.getElem?_nil, reduceCtorEq, Nat.zero_add, Nat.reduceAdd] at ho'
    all_goals subst ho'
    all_goals rw [aOper_plain]
    · have e4 : H done = B := by rw [hH]; simp only; rw [if_neg hni]
      have e5 : H (0 :: done) = B ++ [jdgO] := by rw [hH]; simp
      rw [e5] at hC
      rw [e4]
      simp (disch := omega) only [go_sem, seval]
      refine ACalls.detH (judges_calls Γ _) ?_
      exact hC
    · rw [eH _ (by decide)] at hC; simp (disch := omega) only [go_sem, seval, f9]; exact hC
    · rw [eH _ (by decide)] at hC
      have v0 : lk σ 70 = .map (some B.length) := hv 0 (hd' 0 (by decide)) (by decide)
      have v1 : lk σ 71 = .int .i64 (modeL m) := hv 1 (hd' 1 (by decide)) (by decide)
      have e4 : H done = B ++ [jdgO] := by rw [hH]; simp only; rw [if_pos (hd' 0 (by decide))]
      have z0 : (H done)[B.length]? = some (.map (mEnts (fun n => .int .i64 n) id 0 jdgM) 4) := by rw [e4]; simp [jdgO]
      simp (disch := omega) only [go_sem, seval, v0, v1, z0]
      rw [mLook _ _ _ _ (modeL m) jdgM (mFind_int _ (modeL m) jdgM 0), hf1]
      simp (disch := omega) only [go_sem, seval, mLk]
      exact hC
    · rw [eH _ (by decide)] at hC; simp (disch := omega) only [go_sem, seval, f11, e11]; exact hC
    · rw [eH _ (by decide)] at hC; simp (disch := omega) only [go_sem, seval, f12, e12]; exact hC
    · rw [eH _ (by decide)] at hC
      have v2 : lk σ 72 = .func f [] [] := hv 2 (hd' 2 (by decide)) (by decide)
      have v3 : lk σ 73 = .sl (m.map encV) own := hv 3 (hd' 3 (by decide)) (by decide)
      have v4 : lk σ 74 = .bool old := hv 4 (hd' 4 (by decide)) (by decide)
      simp (disch := omega) only [go_sem, seval, v2, v3, v4]
      refine ACalls.ofLoose (bs := [.sl (m.map encV) .free, .bool old]) (ACalls.det (hf2 _) ?_) (by simp [looseL, loose, loose_Vs])
      exact hC
    · rw [eH _ (by decide)] at hC
      have v5 : lk σ 75 = .sl ((jdgF (modeL m) old m).map encV) .free := hv 5 (hd' 5 (by decide)) (by decide)
      simp (disch := omega) only [go_sem, seval, v5, List.length_map]; exact hC
    · rw [eH _ (by decide)] at hC; simp (disch := omega) only [go_sem, seval]; exact hC
  · intro done σ hd' hf hv
    have v75 : lk σ 75 = .sl ((jdgF (modeL m) old m).map encV) .free := hv 5 (by decide)
    have v76 : lk σ 76 = .int .i64 (jdgF (modeL m) old m).length := hv 6 (by decide)
    have v77 : lk σ 77 = .int .i64 0 := hv 7 (by decide)
    have e4 : H done = B ++ [jdgO] := by rw [hH]; simp only; rw [if_pos (hd' 0 (by decide))]
    rw [e4]
    simp (disch := omega) only [go_sem, seval]
    refine AWP.weaken (σ' := [(8, .sl [] .full), (9, .int .i64 (modeL m)), (75, .sl ((jdgF (modeL m) old m).map encV) .free), (76, .int .i64 (jdgF (modeL m) old m).length), (77, .int .i64 0)]) ?_ (lk_sub σ _ ?_)
    rotate_left
    · intro p hp
      simp only [List.mem_cons, List.not_mem_nil, or_false] at hp
      rcases hp with rfl | rfl | rfl | rfl | rfl
      · exact (hf 8 (by decide)).trans rfl
      · exact (hf 9 (by decide)).trans rfl
      · exact v75
      · exact v76
      · exact v77
    have hRl : (jdgF (modeL m) old m).length ≤ 12 := by
      rw [jdgF]
      split
      · split
        · rw [List.length_take]; omega
        · simp
      split
      · rw [List.length_drop]; omega
      · exact hml
    generalize hR : jdgF (modeL m) old m = R at hRl hj ⊢
    obtain ⟨B', hB'⟩ : ∃ B', B' = B ++ [jdgO] := ⟨_, rfl⟩
    rw [← hB']
    refine AWP.mark (by decide +kernel) (aCode_ok Ty.mixed _ _ _ _ (by kernel_rfl) ?_)
    simp (disch := omega) only [go_sem, seval]
    refine awp_loopL (β := AV × AH) R [8, 9, 75, 76, 77, 1000000] (fun don b => [(8, b.1), (9, .int .i64 (modeL m)), (75, .sl (R.map encV) .free), (76, .int .i64 R.length), (77, .int .i64 don.length), (1000000, .tuple [])]) (fun b => B' ++ b.2) (fun don _ b => So.OwnM B'.length b.2 3 b.1 (encI (don.map Vs.no))) (.sl [] .full, []) ?_ (by simp) (.inl ⟨rfl, by simp [encI]⟩) Ty.mixed (by kernel_rfl) ?_ ?_
    · simp (disch := omega) only [go_sem, seval, List.length_nil]
    · rintro don y r ⟨v, j⟩ hdn hv
      simp only at hv ⊢
      have hlen : R.length = don.length + 1 + r.length := by rw [hdn]; simp; omega
      have e1 : (R.map encV)[don.length]? = some (encV y) := by rw [hdn]; exact rowMid ..
      rw [encV_eq] at e1
      simp (disch := omega) only [go_sem, seval, List.length_map]
      refine aIf.pos (by omega) ?_
      simp (disch := omega) only [go_sem, seval, e1, List.length_map]
      refine ⟨by omega, rfl, by simp [AV.cells, AV.one], ?_⟩
      simp (disch := omega) only [go_sem, seval, List.append_assoc, List.length_append]
      refine So.aApM_own (xs := encI (don.map Vs.no)) (ys := encI [y.no]) (hv.more _) ⟨[.int .i64 y.no], 3, ?_, rfl, by simp, by simp [AV.one], rfl⟩ (rowsOK_I _) (So.flat_I _) (by simp [encI]) ?_ ?_ fun v' j' hv' _ => ?_
      · rw [hget_add, List.getElem?_append_right (by omega), show j.length + 1 - j.length = 1 from by omega]; rfl
      · simp only [encI_len, List.length_map, List.length_cons, List.length_nil]; omega
      · simp only [encI_len, List.length_map, List.length_cons, List.length_nil]; omega
      rw [So.encI_app2] at hv'
      simp (disch := omega) only [go_sem, seval]
      refine roundL_next (v', j') ?_ ?_ rfl
      · rw [List.map_append, List.map_cons, List.map_nil]; exact hv'
      · simp (disch := omega) only [go_sem, seval, List.length_append]
    · rintro ⟨v, j⟩ hv
      simp only at hv ⊢
      simp (disch := omega) only [go_sem, seval, List.length_map]
      refine AWP.keep [8, 9] (aCode_ok Ty.mixed _ _ _ _ (by kernel_rfl) ?_)
      simp (disch := omega) only [go_sem, seval]
      have hnl : (R.map Vs.no).length ≤ 12 := by rw [List.length_map]; exact hRl
      have hso := So.sortM_calls Γ B' j [] 3 v _ hv hnl
      rw [List.append_nil] at hso
      refine ACalls.then hso ?_
      rintro _ _ ⟨j', hj', rfl, hv'⟩
      rw [List.append_nil]
      simp (disch := omega) only [go_sem, seval]
      rw [hj] at hd
      obtain ⟨Z, hZ⟩ : ∃ Z, B' = h ++ Z := ⟨[.row [.int .i64 begun] 3, .row [.int .i64 at_] 3] ++ (AObj.row [.sl (m.map encV) own] 22 :: .row [.bool old] 4 :: .dead :: Y) ++ [jdgO], by rw [hB', hB, hK]; simp⟩
      rw [hd, hZ]
      simp only
      refine ⟨⟨Z ++ j', by simp⟩, ?_⟩
      rcases hv' with ⟨rfl, hnil⟩ | ⟨q, c, pad, rfl, hq, hc', hp⟩
      · left
        have : So.sortI (R.map Vs.no) = [] := by
          cases hm : So.sortI (R.map Vs.no) with
          | nil => rfl
          | cons a r => rw [hm] at hnil; simp [encI] at hnil
        rw [this]
        exact ⟨of_eq_true (rb_I _ []), rfl⟩
      · right
        refine ⟨Z.length + q, encI (So.sortI (R.map Vs.no)) ++ pad, 3, ?_, ?_⟩
        · rw [List.append_assoc, hget_add, hget_add]; exact hq
        rw [encI_len] at hc'
        have hfo := So.fz_own (h.length + (Z.length + q)) c (So.sortI (R.map Vs.no)) pad (by omega) hp
        rw [hZ, List.length_append, Nat.add_assoc, encI_len]
        have ft : ∀ (i : Nat) (cs : List AV) (v : AV) (a b : Int), fzV i cs (.tuple [v, .int .i64 a, .int .i64 b]) = .tuple [fzV i cs v, .int .i64 a, .int .i64 b] := fun _ _ _ _ _ => rfl
        rw [ft, hfo]
        simp (disch := omega) only [go_sem, seval]
end Go.Proofs.YtjdhgaflenhljaaGreatDoor
