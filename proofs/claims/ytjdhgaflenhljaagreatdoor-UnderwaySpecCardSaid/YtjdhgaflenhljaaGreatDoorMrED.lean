/- Texts joined: PolN, PolNb, PolO, PolP. No conditions. -/
import Derived.Test.YtjdhgaflenhljaaGreatDoorMrEC
import Derived.Test.YtjdhgaflenhljaaGreatDoorMrAA
/- The program's parts of expressions: what they yield. No conditions. -/
set_option linter.unusedSimpArgs false
set_option linter.unusedVariables false
namespace Go.Proofs.YtjdhgaflenhljaaGreatDoor
open Go Go.Proofs Go.Abs

/-- A part. -/
def encPt (y : Ex × Nat) : AV := .agg (chC y.1 ++ [.int .i64 y.2])
def partsV (x : Ex) (d : Nat) : AV := .func 87 [] [.eptr (chC x), .eptr [.int .i64 d]]
set_option maxRecDepth 100000 in
theorem parts_calls (Γ : Nat → Option (List AV)) (x : Ex) (d : Nat) (h : AH) : ACalls Tryz.prog Γ 65 [encX x, .int .i64 d] h fun v h' => h' = h ∧ v = partsV x d := by
  rw [partsV, encX_chC]
  refine ACalls.dropL ?_
  refine ACalls.freeze ?_
  refine ACalls.freeze ?_
  rw [chC]
  refine acalls_code (rs := [.tmp 4]) Tryz.func65 rfl rfl rfl rfl Ty.mixed (by kernel_rfl) ?_
  simp (disch := omega) only [go_sem, seval]
  have e1 : ∀ a b : AObj, (h ++ [a, b])[h.length]? = some a := fun a b => by simp
  have e2 : ∀ a b : AObj, ((h ++ [a, b]).set h.length .frozen)[h.length + 1]? = some b := fun a b => by rw [List.getElem?_set_ne (by omega)]; simp
  have e4 : ∀ a b : AObj, ∃ l, ((h ++ [a, b]).set h.length .frozen).set (h.length + 1) .frozen = h ++ l := fun a b => ⟨[.frozen, .frozen], by
    have a1 : (h ++ [a, b]).set (h.length + 0) .frozen = h ++ [.frozen, b] := hset_add ..
    have a2 : (h ++ [.frozen, b]).set (h.length + 1) .frozen = h ++ [.frozen, .frozen] := hset_add ..
    rw [Nat.add_zero] at a1
    rw [a1, a2]⟩
  refine ⟨h.length, _, _, _, e1 _ _, Froze.set (e1 _ _), h.length + 1, _, _, _, e2 _ _, Froze.set (e2 _ _), e4 _ _, ?_, ?_⟩
  · simp only [fzV, fzL, if_true, List.drop_zero]
    rw [if_neg (by omega)]
    simp only [fzV, fzL, if_true, List.drop_zero, loose, looseL, loose_Xs]
    exact .func (RBs.nil _) (RBs.cons (.eptr (RBs.cons (.int _ _) (RBs.cons (.int _ _) (RBs.cons (.int _ _) (RBs.cons (.str _) (RBs.cons (of_eq_true (rb_Xs _ _)) (RBs.nil _))))))) (RBs.cons (.eptr (RBs.cons (.int _ _) (RBs.nil _))) (RBs.nil _)))
  · simp only [fzV, fzL, if_true, List.drop_zero]
    rw [if_neg (by omega)]
    simp only [fzV, fzL, if_true, List.drop_zero, loose, looseL, loose_Xs]
/-- Below B nothing has changed. -/
def Same (B : Nat) (h h' : AH) : Prop := ∀ i, i < B → h'[i]? = h[i]?
theorem Same.refl (B : Nat) (h : AH) : Same B h h := fun _ _ => rfl
theorem Same.trans {B : Nat} {h h1 h2 : AH} (a : Same B h h1) (b : Same B h1 h2) : Same B h h2 := fun i hi => (b i hi).trans (a i hi)
theorem Same.app {B : Nat} (h l : AH) (hB : B ≤ h.length) : Same B h (h ++ l) := fun i hi => by rw [List.getElem?_append_left (by omega)]
theorem Same.set {B i : Nat} {h : AH} (hi : B ≤ i) (o : AObj) : Same B h (h.set i o) := fun k hk => by rw [List.getElem?_set_ne (by omega)]
/-- Who consumes parts, one after the other; it may panic. -/
structure ConsX (Γ : Nat → Option (List AV)) (B L b : Nat) (X : Value → Prop) (items : List (Ex × Nat)) (Iv : List (Ex × Nat) → AH → Prop) (Stp : AH → Prop) : Prop where
  low : B ≤ b
  inv : ∀ don h h', Iv don h → Fra b h h' → Iv don h'
  stp : ∀ h h', Stp h → Fra b h h' → Stp h'
  yl : ∀ don x r h, items = don ++ x :: r → b ≤ h.length → Iv don h → AYieldX Tryz.prog Γ B L [encPt x] h (fun v h' => Kept b h h' ∧ Same B h h' ∧ ((v = .bool true ∧ Iv (don ++ [x]) h') ∨ (v = .bool false ∧ Stp h'))) X
theorem panSame {B : Nat} {h0 h1 : AH} {X : Value → Prop} {u : Value} (hs : Same B h0 h1) (hl : h0.length ≤ h1.length) (hX : X u) : PanOK B h0 X (pan u) (deadH B h1) :=
  ⟨u, rfl, hX, by rw [deadH_len]; exact hl, fun i hi => by rw [deadH_get hi]; exact hs i hi⟩
theorem fra_mono {b c : Nat} {h h' : AH} (F : Fra c h h') (hb : b ≤ c) : Fra b h h' := ⟨F.1, fun i ob e => (F.2 i ob e).imp id fun ⟨q1, q2⟩ => ⟨Nat.le_trans hb q1, q2⟩⟩
theorem fra_at {c i : Nat} {h h' : AH} {ob : AObj} (F : Fra c h h') (hi : i < c) (e : h[i]? = some ob) : h'[i]? = some ob := by
  rcases F.2 i ob e with q | ⟨q, _⟩
  · exact q
  · omega
theorem fra_set2 {c i : Nat} {h h' : AH} (F : Fra c h h') (hi : i < c) (o : AObj) : Fra c (h.set i o) (h'.set i o) := by
  refine ⟨by simpa using F.1, fun k ob e => ?_⟩
  by_cases hk : i = k
  · subst hk
    have hl : i < h.length := by
      have := (List.getElem?_eq_some_iff.1 e).1
      simpa using this
    rw [List.getElem?_set_self hl] at e
    have := F.1
    exact .inl (by rw [List.getElem?_set_self (by omega)]; exact e)
  · rw [List.getElem?_set_ne hk] at e ⊢
    exact F.2 k ob e
theorem fra_trans {b : Nat} {h h1 h2 : AH} (a : Fra b h h1) (k : Fra b h1 h2) : Fra b h h2 := ⟨Nat.le_trans a.1 k.1, fun i ob e => by
  rcases a.2 i ob e with q | q
  · exact k.2 i ob q
  · exact .inr q⟩
/-- What is there of a heap's functions and loops in a later one. -/
structure Kq (b : Nat) (H h : AH) : Prop where
  len : H.length ≤ h.length
  fn : ∀ (i : Nat) (c : AV) (T : TypeId), b ≤ i → c.isFn = true → H[i]? = some (.row [c] T) → h[i]? = some (.row [c] T)
  lp : ∀ (i : Nat) (st : LoopState) (pe : Option Code) (li : LI), b ≤ i → i < H.length → (H[i]? = some (.loop st pe li) ↔ h[i]? = some (.loop st pe li))
theorem kept_kq {b : Nat} {H h : AH} (K : Kept b H h) : Kq b H h := ⟨K.len, K.fn, fun i st pe li hi _ => K.lp i st pe li hi⟩
theorem Kq.kept {b : Nat} {H h h2 : AH} (A : Kq b H h) (K : Kept b h h2) : Kq b H h2 :=
  ⟨Nat.le_trans A.len K.len, fun i c T hi hc e => K.fn i c T hi hc (A.fn i c T hi hc e), fun i st pe li hi hl => (A.lp i st pe li hi hl).trans (K.lp i st pe li hi)⟩
theorem Kq.fra {b c : Nat} {H h h2 : AH} (A : Kq b H h) (hc : H.length ≤ c) (F : Fra c h h2) : Kq b H h2 := by
  refine ⟨Nat.le_trans A.len F.1, fun i x T hi hx e => ?_, fun i st pe li hi hl => (A.lp i st pe li hi hl).trans ?_⟩
  · exact fra_at F (by have := (List.getElem?_eq_some_iff.1 e).1; omega) (A.fn i x T hi hx e)
  · constructor
    · exact fun e => fra_at F (by omega) e
    · intro e
      have hl2 : i < h.length := by have := A.len; omega
      have := fra_at F (by omega) (List.getElem?_eq_getElem hl2)
      rw [this] at e
      rw [List.getElem?_eq_getElem hl2]; exact e
theorem Kq.full {b c : Nat} {H h : AH} (A : Kq b H h) (hc : c ≤ H.length) (K : Kept c H h) : Kept b H h :=
  ⟨A.len, A.fn, fun i st pe li hi => by
    by_cases hl : i < H.length
    · exact A.lp i st pe li hi hl
    · exact K.lp i st pe li (by omega), K.old⟩
theorem partsLs_app (d : Nat) (a b : List Ex) : partsLs d (a ++ b) = partsLs d a ++ partsLs d b := by
  induction a with
  | nil => rfl
  | cons x r ih => rw [List.cons_append, partsLs, partsLs, ih, List.append_assoc]
set_option maxRecDepth 100000 in
theorem parts1_calls_k (Γ : Nat → Option (List AV)) (B : Nat) (X : Value → Prop) : ∀ (m : Nat) (x : Ex) (d L b : Nat) (Iv : List (Ex × Nat) → AH → Prop) (Stp : AH → Prop) (h : AH), SizeOf.sizeOf x < m → ShX x → d + depthX x ≤ 1000000 → ConsX Γ B L b X (partsL d x) Iv Stp → b ≤ h.length → Iv [] h →
    ACallsX Tryz.prog Γ B 87 [.yield L, .eptr (chC x), .eptr [.int .i64 d]] h (fun _ h' => Kept b h h' ∧ Same B h h' ∧ (Iv (partsL d x) h' ∨ Stp h')) X
  | 0, _, _, _, _, _, _, _, hk, _, _, _, _, _ => absurd hk (Nat.not_lt_zero _)
  | m + 1, .mk k n no s l, d, L, b, Iv, Stp, h, hsz, hs, hd, C, hb, hI => by
    refine acallsX_code (rs := []) 87 Tryz.func87 rfl rfl rfl rfl (by kernel_rfl) ?_
    rw [chC]
    simp only [Ex.k, Ex.n, Ex.no, Ex.name, Ex.l]
    simp (disch := omega) only [go_sem, seval]
    obtain ⟨bx, hbx⟩ : ∃ bx : AObj, bx = .row [.yield L] 124 := ⟨_, rfl⟩
    have hn : NoLoop [bx] := fun ob ho st pe li e => by rw [List.mem_singleton] at ho; subst ho; rw [hbx] at e; cases e
    rw [← hbx]
    have hlow := C.low
    have hKb : Kept b h (h ++ [bx]) := .app b h hn
    have hSb : Same B h (h ++ [bx]) := .app h _ (by omega)
    have hb0 : (h ++ [bx])[h.length]? = some (.row [.yield L] 124) := by rw [← hbx]; simp
    refine (C.yl [] (.mk k n no s l, d) (partsLs (d + 1) l) _ (by rw [partsL]; rfl) (by simp; omega) (C.inv _ _ _ hI (.app b h _))).mono ?_ ?_
    rotate_left
    · intro u hu
      exact panSame hSb (by simp) hu
    rintro v h1 ⟨q1, q2, q3⟩
    have hK1 := hKb.trans q1
    have hS1 := hSb.trans q2
    have h1b := q1.fn h.length _ _ hb rfl hb0
    rcases q3 with ⟨rfl, q3⟩ | ⟨rfl, q3⟩
    rotate_left
    · simp (disch := omega) only [go_sem, seval]
      exact ⟨hK1, hS1, .inr q3⟩
    simp (disch := omega) only [go_sem, seval, List.length_map]
    have hl1 := hs.len
    rw [partsL] at C ⊢
    rw [List.nil_append] at q3
    refine bwp_loopL (B := B) (β := AH) l [1, 2, 3, 14, 15, 16] (fun don _ => [(1, .eptr [.int .i64 k, .int .i64 n, .int .i64 no, .str ⟨⟨s⟩⟩, .sl (l.map encX) .free]), (2, .eptr [.int .i64 d]), (3, .ptr (some (h.length, 0))), (14, .sl (l.map encX) .free), (15, .int .i64 l.length), (16, .int .i64 don.length)]) (fun hx => hx)
      (fun don _ hx => Kept b (h ++ [bx]) hx ∧ Same B h hx ∧ Iv ((.mk k n no s l, d) :: partsLs (d + 1) don) hx) h1 ?_ rfl ⟨q1, hS1, q3⟩ (by kernel_rfl) ?_ ?_
    · simp (disch := omega) only [go_sem, seval, List.length_nil]
    · rintro don x r hx hdn ⟨k1, k2, k3⟩
      have hlen : l.length = don.length + 1 + r.length := by rw [hdn]; simp; omega
      have e1 : (l.map encX)[don.length]? = some (encX x) := by rw [hdn]; exact rowMid ..
      have hxl : x ∈ l := by rw [hdn]; simp
      simp (disch := omega) only [go_sem, seval]
      refine aIf.pos (by omega) ?_
      rw [encX_chC, chC] at e1
      simp (disch := omega) only [go_sem, seval, e1]
      have hdx : d + 1 + depthX x ≤ 1000000 := by
        rw [depthX] at hd
        have : depthX x ≤ depthXs l := by rw [hdn, depthXs_app, depthXs]; omega
        omega
      refine ACallsX.det ((parts_calls Γ x (d + 1) _).args (by rw [encX_chC, chC]; push_cast; rfl)) ?_
      simp (disch := omega) only [go_sem, seval, partsV]
      refine BWP.keep [1, 2, 3, 14, 15, 16, 23] ?_
      simp (disch := omega) only [go_sem, seval]
      obtain ⟨rx, hrx⟩ : ∃ rx : AObj, rx = .row [.int .i64 x.k, .int .i64 x.n, .int .i64 x.no, .str ⟨⟨x.name⟩⟩, .sl (x.l.map encX) .free] 35 := ⟨_, rfl⟩
      have hnr : NoLoop [rx] := fun ob ho st pe li e => by rw [List.mem_singleton] at ho; subst ho; rw [hrx] at e; cases e
      rw [← hrx]
      refine bwp_rangeFuncNL (B := B) (X := X) rfl (by have := k1.len; simp at this ⊢; omega) (fun li hli => ?_) ?_
      · obtain ⟨L2, hL2⟩ : ∃ L2, L2 = (hx ++ [rx]).length := ⟨_, rfl⟩
        have hL2' : L2 = hx.length + 1 := by rw [hL2]; simp
        obtain ⟨H0, hH⟩ : ∃ H0 : AH, H0 = hx ++ [rx] ++ [.loop .ready none li] := ⟨_, rfl⟩
        have H0l : H0.length = L2 + 1 := by rw [hH, hL2]; simp
        have H0L : H0[L2]? = some (.loop .ready none li) := by rw [hH, hL2]; simp
        have hkl := k1.len
        simp only [List.length_append, List.length_cons, List.length_nil] at hkl
        have hxb := k1.fn h.length _ _ hb rfl hb0
        have H0b : H0[h.length]? = some (.row [.yield L] 124) := by rw [hH, List.append_assoc, List.getElem?_append_left (by omega)]; exact hxb
        have hFx : Fra b hx H0 := by rw [hH, List.append_assoc]; exact .app b hx _
        have hSx : Same B h H0 := k2.trans (by rw [hH, List.append_assoc]; exact .app hx _ (by omega))
        rw [← hL2, ← hH]
        obtain ⟨base, hbase⟩ : ∃ base, base = (Ex.mk k n no s l, d) :: partsLs (d + 1) don := ⟨_, rfl⟩
        have hall : (Ex.mk k n no s l, d) :: partsLs (d + 1) l = base ++ partsL (d + 1) x ++ partsLs (d + 1) r := by
          rw [hbase, hdn, partsLs_app, partsLs]; simp
        have hnx : (Ex.mk k n no s l, d) :: partsLs (d + 1) (don ++ [x]) = base ++ partsL (d + 1) x := by
          rw [hbase, partsLs_app, partsLs, partsLs]; simp
        rw [← hbase] at k3
        have C2 : ConsX Γ B L2 (L2 + 1) X (partsL (d + 1) x) (fun dn hq => Iv (base ++ dn) hq ∧ Kq b H0 hq ∧ Same B h hq) (fun hq => Stp hq ∧ hq[L2]? = some (.loop .done (some .ret) li) ∧ Kq b H0 (hq.set L2 (.loop .ready none li)) ∧ Same B h hq) := by
          refine ⟨by omega, ?_, ?_, ?_⟩
          · rintro dn h2 h3 ⟨m1, m2, m3⟩ F
            have hm := m2.len
            exact ⟨C.inv _ _ _ m1 (fra_mono F (by omega)), m2.fra (by omega) F, fun i hi => by
              have hil : i < h2.length := by omega
              rw [← m3 i hi, List.getElem?_eq_getElem hil]
              exact fra_at F (by omega) (List.getElem?_eq_getElem hil)⟩
          · rintro h2 h3 ⟨m1, m2, m3, m4⟩ F
            have hm := m3.len
            simp only [List.length_set] at hm
            exact ⟨C.stp _ _ m1 (fra_mono F (by omega)), fra_at F (by omega) m2, m3.fra (by omega) (fra_set2 F (by omega) _), fun i hi => by
              have hil : i < h2.length := by omega
              rw [← m4 i hi, List.getElem?_eq_getElem hil]
              exact fra_at F (by omega) (List.getElem?_eq_getElem hil)⟩
          · rintro dn y ry h2 hdy hb2 ⟨m1, m2, m3⟩
            have h2L : h2[L2]? = some (.loop .ready none li) := (m2.lp L2 _ _ _ (by omega) (by omega)).1 H0L
            have h2b := m2.fn h.length _ _ hb rfl H0b
            rw [encPt]
            refine ayieldX_L hli Tryz.func87 h2L rfl rfl Ty.mixed (by kernel_rfl) (by kernel_rfl) ?_
            rw [chC]
            obtain ⟨pr, hpr⟩ : ∃ pr : AObj, pr = .row [.int .i64 y.1.k, .int .i64 y.1.n, .int .i64 y.1.no, .str ⟨⟨y.1.name⟩⟩, .sl (y.1.l.map encX) .free, .int .i64 y.2] 104 := ⟨_, rfl⟩
            have hnp : NoLoop [pr] := fun ob ho st pe li e => by rw [List.mem_singleton] at ho; subst ho; rw [hpr] at e; cases e
            obtain ⟨h4, hh4⟩ : ∃ h4, h4 = h2 ++ [pr] := ⟨_, rfl⟩
            have hK4 : ∀ c, Kept c h2 h4 := fun c => by rw [hh4]; exact .app c h2 hnp
            have h4l : h4.length = h2.length + 1 := by rw [hh4]; simp
            have h4L : h4[L2]? = some (.loop .ready none li) := ((hK4 0).lp L2 _ _ _ (by omega)).1 h2L
            have h4b := (hK4 b).fn h.length _ _ hb rfl h2b
            have h4p : h4[h2.length]? = some pr := by rw [hh4]; simp
            have hF4 : Fra b h2 h4 := by rw [hh4]; exact .app b h2 _
            have hS4 : Same B h2 h4 := by rw [hh4]; exact .app h2 _ (by omega)
            rw [hpr] at h4p hh4
            simp (disch := omega) only [go_sem, seval]
            rw [← hh4]
            have hset : (h4.set L2 (.loop .busy none li)).set L2 (.loop .ready none li) = h4 := by rw [List.set_set, hset_same h4L]
            have hbL : (h4.set L2 (.loop .busy none li))[L2]? = some (.loop .busy none li) := by rw [List.getElem?_set_self (hget_of h4L)]
            have hbb : (h4.set L2 (.loop .busy none li))[h.length]? = some (.row [.yield L] 124) := by rw [List.getElem?_set_ne (by omega)]; exact h4b
            have hbp : (h4.set L2 (.loop .busy none li))[h2.length]? = some (.row [.int .i64 y.1.k, .int .i64 y.1.n, .int .i64 y.1.no, .str ⟨⟨y.1.name⟩⟩, .sl (y.1.l.map encX) .free, .int .i64 y.2] 104) := by rw [List.getElem?_set_ne (by omega)]; exact h4p
            simp (disch := omega) only [go_sem, seval, hbb, hbp]
            refine ⟨h4L, ?_⟩
            have hC := C.yl (base ++ dn) y (ry ++ partsLs (d + 1) r) (h4.set L2 (.loop .busy none li)) (by rw [hall, hdy]; simp) (by simp; omega) (C.inv _ _ _ m1 (fra_trans hF4 (.set (by omega) h4L _)))
            rw [encPt, chC] at hC
            refine hC.mono ?_ ?_
            · rintro v h5 ⟨q1, q2, q3⟩
              have h5L := (q1.lp L2 _ _ _ (by omega)).1 hbL
              have qT := Kept.turn h4L q1
              have qK := (hK4 b).trans qT
              have qS : Same B h2 (h5.set L2 (.loop .ready none li)) := ((hS4.trans (.set (by omega) _)).trans q2).trans (.set (by omega) _)
              have qS' : Same B h2 (h5.set L2 (.loop .done (some .ret) li)) := ((hS4.trans (.set (by omega) _)).trans q2).trans (.set (by omega) _)
              rcases q3 with ⟨rfl, q3⟩ | ⟨rfl, q3⟩
              · simp (disch := omega) only [go_sem, seval, h5L]
                refine ⟨qK.mono (by omega), qS, .inl ⟨?_, m2.kept qK, m3.trans qS⟩⟩
                rw [← List.append_assoc]
                exact C.inv _ _ _ q3 (.set (by omega) h5L _)
              · simp (disch := omega) only [go_sem, seval, h5L]
                refine ⟨?_, qS', .inr ⟨C.stp _ _ q3 (.set (by omega) h5L _), by rw [List.getElem?_set_self (hget_of h5L)], ?_, m3.trans qS'⟩⟩
                · have := (qK.mono (show b ≤ L2 + 1 by omega)).setB (s := .done) (p := some .ret) (li := li) (Nat.lt_succ_self L2) h2L
                  rwa [List.set_set] at this
                · rw [List.set_set]; exact m2.kept qK
            · intro u hu
              exact panSame (hS4.trans (.set (by omega) _)) (by simp; omega) hu
        refine (parts1_calls_k Γ B X m x (d + 1) L2 (L2 + 1) _ _ H0 (memX_sz hxl hsz) (hs.mem x hxl) hdx C2 (by omega) ⟨by rw [List.append_nil]; exact C.inv _ _ _ k3 hFx, kept_kq (Kept.refl b H0), hSx⟩).mono ?_ (fun u hu => hu)
        rintro v h3 ⟨q1, q2, q3⟩
        subst hL2
        rcases q3 with ⟨q3, q4, q5⟩ | ⟨q3, q4, q5, q6⟩
        · have hf := q4.full (by omega) q1
          have h3L := (hf.lp _ _ _ _ (by omega)).1 H0L
          refine rangeN_post (li0 := li) h3L (by rw [← hH]; exact hf.old) (by simp) ?_
          rw [afterLoop_none]
          simp (disch := omega) only [go_sem, seval]
          refine bCode_ok (B := B) _ _ _ _ (by kernel_rfl) ?_
          simp (disch := omega) only [go_sem, seval]
          rw [hH] at hf
          have hE := Kept.endL hnr hf
          rw [hL2'] at hE h3L
          refine roundL_next (h3.set (hx.length + 1) .dead) ⟨k1.trans hE, q5.trans (.set (by omega) _), ?_⟩ ?_ rfl
          · rw [hnx]
            exact C.inv _ _ _ q3 (.set (by omega) h3L _)
          · simp (disch := omega) only [go_sem, seval, List.length_append]
        · obtain ⟨hy, hhy⟩ : ∃ hy, hy = h3.set (hx ++ [rx]).length (.loop .ready none li) := ⟨_, rfl⟩
          rw [← hhy] at q5
          have h3l := (List.getElem?_eq_some_iff.1 q4).1
          have hold : ∀ (i : Nat) (st : LoopState) (pe : Option Code) (lj : LI), h3[i]? = some (.loop st pe lj) → ∃ st0 pe0 lj, H0[i]? = some (.loop st0 pe0 lj) := q1.old
          have hKy : Kept b H0 hy := ⟨q5.len, q5.fn, fun i st pe lj hi => by
            by_cases hl : i < H0.length
            · exact q5.lp i st pe lj hi hl
            · rw [hhy, List.getElem?_set_ne (by omega)]
              exact q1.lp i st pe lj (by omega), fun i st pe lj e => by
            by_cases hl : (hx ++ [rx]).length = i
            · subst hl; exact ⟨_, _, _, H0L⟩
            · rw [hhy, List.getElem?_set_ne hl] at e
              exact hold i st pe lj e⟩
          refine rangeN_post (li0 := li) q4 (by rw [← hH]; exact hold) (by simp) ?_
          refine afterLoop_some Ty.mixed (by kernel_rfl) ?_
          simp (disch := omega) only [go_sem, seval]
          rw [hH] at hKy
          have hE := Kept.endL hnr hKy
          rw [hhy, List.set_set, hL2'] at hE
          refine ⟨hKb.trans (k1.trans hE), q6.trans (.set (by omega) _), .inr ?_⟩
          have := C.stp _ _ q3 (.set (show b ≤ (hx ++ [rx]).length by omega) q4 .dead)
          rwa [hL2'] at this
      · intro u hu
        exact panSame (k2.trans (.app hx _ (by have := k1.len; simp at this; omega))) (by have := k1.len; simp at this ⊢; omega) hu
    · rintro hx ⟨k1, k2, k3⟩
      simp (disch := omega) only [go_sem, seval]
      exact ⟨hKb.trans k1, k2, .inl k3⟩

theorem parts1_calls (Γ : Nat → Option (List AV)) (B : Nat) (X : Value → Prop) (x : Ex) (d L b : Nat) (Iv : List (Ex × Nat) → AH → Prop) (Stp : AH → Prop) (h : AH) (hs : ShX x) (hd : d + depthX x ≤ 1000000) (C : ConsX Γ B L b X (partsL d x) Iv Stp) (hb : b ≤ h.length) (hI : Iv [] h) :
    ACallsX Tryz.prog Γ B 87 [.yield L, .eptr (chC x), .eptr [.int .i64 d]] h (fun _ h' => Kept b h h' ∧ Same B h h' ∧ (Iv (partsL d x) h' ∨ Stp h')) X :=
  parts1_calls_k Γ B X _ x d L b Iv Stp h (Nat.lt_succ_self _) hs hd C hb hI
end Go.Proofs.YtjdhgaflenhljaaGreatDoor

/- A range over the parts of an expression: the rule for it. No conditions. -/
set_option linter.unusedSimpArgs false
set_option linter.unusedVariables false
namespace Go.Proofs.YtjdhgaflenhljaaGreatDoor
open Go Go.Proofs Go.Abs

theorem kept_tail (K A A' Y Z : AH) (o : AObj) (hl : A.length = A'.length) (hA : NoLoop A') (hZ : NoLoop Z) : Kept (K.length + A.length + 1) (K ++ A ++ o :: Y) (K ++ A' ++ o :: (Y ++ Z)) := by
  have g : ∀ i, K.length + A.length ≤ i → i < K.length + A.length + 1 + Y.length → (K ++ A' ++ o :: (Y ++ Z))[i]? = (K ++ A ++ o :: Y)[i]? := fun i h1 h2 => by
    rw [List.getElem?_append_right (by simp; omega), List.getElem?_append_right (by simp; omega)]
    simp only [List.length_append, hl]
    obtain ⟨k, rfl⟩ : ∃ k, i = K.length + A'.length + k := ⟨i - (K.length + A'.length), by omega⟩
    rw [Nat.add_sub_cancel_left]
    cases k with
    | zero => simp
    | succ k =>
      rw [List.getElem?_cons_succ, List.getElem?_cons_succ, List.getElem?_append_left (by omega)]
  have out : ∀ i, K.length + A.length + 1 + Y.length ≤ i → (K ++ A ++ o :: Y)[i]? = none := fun i h1 => by
    rw [List.getElem?_eq_none]; simp; omega
  have nl : ∀ i st pe li, K.length + A.length + 1 + Y.length ≤ i → (K ++ A' ++ o :: (Y ++ Z))[i]? ≠ some (.loop st pe li) := fun i st pe li h1 e => by
    rw [List.getElem?_append_right (by simp; omega)] at e
    simp only [List.length_append] at e
    obtain ⟨k, rfl⟩ : ∃ k, i = K.length + A'.length + 1 + Y.length + k := ⟨i - (K.length + A'.length + 1 + Y.length), by omega⟩
    rw [show K.length + A'.length + 1 + Y.length + k - (K.length + A'.length) = (Y.length + k) + 1 by omega, List.getElem?_cons_succ, List.getElem?_append_right (by omega), Nat.add_sub_cancel_left] at e
    exact hZ _ (List.mem_of_getElem? e) _ _ _ rfl
  refine ⟨by simp; omega, fun i c T hi hc e => ?_, fun i st pe li hi => ?_, fun i st pe li e => ?_⟩
  · by_cases h2 : i < K.length + A.length + 1 + Y.length
    · rw [g i (by omega) h2]; exact e
    · rw [out i (by omega)] at e; cases e
  · by_cases h2 : i < K.length + A.length + 1 + Y.length
    · rw [g i (by omega) h2]
    · rw [out i (by omega)]
      exact ⟨fun e => by (cases e), fun e => absurd e (nl i st pe li (by omega))⟩
  · by_cases h2 : i < K.length + A.length + 1 + Y.length
    · by_cases h3 : i < K.length + A.length
      · by_cases h4 : i < K.length
        · rw [List.append_assoc, List.getElem?_append_left h4] at e
          exact ⟨st, pe, li, by rw [List.append_assoc, List.getElem?_append_left h4]; exact e⟩
        · rw [List.append_assoc, List.getElem?_append_right (by omega), List.getElem?_append_left (by omega)] at e
          exact absurd rfl (hA _ (List.mem_of_getElem? e) st pe li)
      · rw [g i (by omega) h2] at e; exact ⟨_, _, _, e⟩
    · exact absurd e (nl i st pe li (by omega))
section
variable {Γ : Nat → Option (List AV)} {N B : Nat} {σ : Tm} {Q : Exit → Tm → AH → Prop} {f0 : FuncId}
/-- **A range over parts.** -/
theorem bwp_parts {g : Operand} {ps : Array Tmp} {assign body : Code} {X : Value → Prop} (x : Ex) (d : Nat) (K : AH) (F : List (Ex × Nat) → AH) (J : List (Ex × Nat) → Prop) (St : List (Ex × Nat) → Ex × Nat → Prop)
    (hg : ev Γ σ g = partsV x d) (hB : B ≤ K.length) (hs : ShX x) (hd : d + depthX x ≤ 1000000) (c : Nat) (hF : ∀ don, (F don).length = c) (hFn : ∀ don, NoLoop (F don)) (hJ : J [])
    (yl : ∀ li : LI, li = ⟨N, σ, ps, assign, body, some f0⟩ → ∀ don y r Y, partsL d x = don ++ y :: r → J don → AYieldX Tryz.prog Γ B (K.length + c) [encPt y] (K ++ F don ++ .loop .ready none li :: Y) (fun v h' => (v = .bool true ∧ J (don ++ [y]) ∧ ∃ Z, NoLoop Z ∧ h' = K ++ F (don ++ [y]) ++ .loop .ready none li :: (Y ++ Z)) ∨ (v = .bool false ∧ St don y ∧ ∃ Z, NoLoop Z ∧ h' = K ++ F don ++ .loop .done (some .ret) li :: (Y ++ Z))) X)
    (hN : J (partsL d x) → ∀ Y, Q .normal σ (K ++ F (partsL d x) ++ .dead :: Y))
    (hS : ∀ don y r, partsL d x = don ++ y :: r → St don y → ∀ Y, AWP Tryz.prog Γ N .ret Q σ (K ++ F don ++ .dead :: Y))
    (hX : ∀ u, X u → Q (.panic (pan u)) σ (deadH B (K ++ F []))) : BWP Tryz.prog Γ f0 N (.rangeFunc g ps assign body) Q σ (K ++ F []) := by
  refine bwp_rangeFuncNL (B := B) (X := X) (hg.trans (by rw [partsV])) (by simp; omega) (fun li hli => ?_) hX
  have hl : ∀ don, (K ++ F don).length = K.length + c := fun don => by rw [List.length_append, hF]
  have hset : ∀ don o o' (Y : AH), (K ++ F don ++ o :: Y).set (K.length + c) o' = K ++ F don ++ o' :: Y := fun don o o' Y => by
    rw [← hl don, List.set_append_right _ _ (Nat.le_refl _), Nat.sub_self, List.set_cons_zero]
  have hget : ∀ don o (Y : AH), (K ++ F don ++ o :: Y)[K.length + c]? = some o := fun don o Y => by
    rw [← hl don, List.getElem?_append_right (Nat.le_refl _), Nat.sub_self]; rfl
  have hsame : ∀ don don' (Y Y' : AH), Same B (K ++ F don ++ Y) (K ++ F don' ++ Y') := fun don don' Y Y' i hi => by
    rw [List.append_assoc, List.append_assoc, List.getElem?_append_left (by omega), List.getElem?_append_left (by omega)]
  have split : ∀ don o (Y h' : AH), Fra (K.length + c + 1) (K ++ F don ++ o :: Y) h' → ∃ Y', h' = K ++ F don ++ o :: Y' := fun don o Y h' hf => by
    have e : K ++ F don ++ o :: Y = (K ++ F don ++ [o]) ++ Y := by simp
    rw [e] at hf
    have hl2 : (K ++ F don ++ [o]).length = K.length + c + 1 := by rw [List.length_append, hl]; rfl
    rw [← hl2] at hf
    obtain ⟨Y', rfl, _⟩ := hf.split
    exact ⟨Y', by simp⟩
  have C : ConsX Γ B (K.length + c) (K.length + c + 1) X (partsL d x) (fun don hq => J don ∧ ∃ Y, hq = K ++ F don ++ .loop .ready none li :: Y) (fun hq => ∃ don y r Y, partsL d x = don ++ y :: r ∧ St don y ∧ hq = K ++ F don ++ .loop .done (some .ret) li :: Y) := by
    refine ⟨by omega, ?_, ?_, ?_⟩
    · rintro don h1 h2 ⟨j, Y, rfl⟩ hf
      exact ⟨j, split _ _ _ _ hf⟩
    · rintro h1 h2 ⟨don, y, r, Y, q1, q2, rfl⟩ hf
      obtain ⟨Y', rfl⟩ := split _ _ _ _ hf
      exact ⟨don, y, r, Y', q1, q2, rfl⟩
    · rintro don y r h1 hdy hb ⟨j, Y, rfl⟩
      refine (yl li hli don y r Y hdy j).mono ?_ (fun u hu => hu)
      rintro v h2 (⟨rfl, q1, Z, q2, rfl⟩ | ⟨rfl, q1, Z, q2, rfl⟩)
      · refine ⟨?_, hsame _ _ _ _, .inl ⟨rfl, q1, _, rfl⟩⟩
        have := kept_tail K (F don) (F (don ++ [y])) Y Z (.loop .ready none li) (by rw [hF, hF]) (hFn _) q2
        rwa [hF] at this
      · refine ⟨?_, hsame _ _ _ _, .inr ⟨rfl, don, y, r, _, hdy, q1, rfl⟩⟩
        have := kept_tail K (F don) (F don) Y Z (.loop .ready none li) rfl (hFn _) q2
        rw [hF] at this
        have := this.setB (s := .done) (p := some .ret) (li := li) (Nat.lt_succ_self (K.length + c)) (hget don _ Y)
        rwa [hset] at this
  rw [hl []]
  refine (parts1_calls Γ B X x d (K.length + c) (K.length + c + 1) _ _ (K ++ F [] ++ [.loop .ready none li]) hs hd C (by simp [hF]; omega) ⟨hJ, [], rfl⟩).mono ?_ (fun u hu => hu)
  rintro v h3 ⟨q1, q2, q3⟩
  rcases q3 with ⟨j, Y, rfl⟩ | ⟨don, y, r, Y, e1, e2, rfl⟩
  · rw [← hl []] at *
    refine rangeN_post (li0 := li) (by rw [hl]; exact hget _ _ _) q1.old (by simp) ?_
    rw [afterLoop_none, hl, hset]
    exact hN j Y
  · rw [← hl []] at *
    refine rangeN_post (li0 := li) (by rw [hl]; exact hget _ _ _) q1.old (by simp) ?_
    rw [hl, hset]
    exact hS don y r e1 e2 Y
/-- The same, where nothing of one's own is changed. -/
theorem bwp_parts0 {g : Operand} {ps : Array Tmp} {assign body : Code} {X : Value → Prop} (x : Ex) (d : Nat) (K : AH) (J : List (Ex × Nat) → Prop) (St : List (Ex × Nat) → Ex × Nat → Prop)
    (hg : ev Γ σ g = partsV x d) (hB : B ≤ K.length) (hs : ShX x) (hd : d + depthX x ≤ 1000000) (hJ : J [])
    (yl : ∀ li : LI, li = ⟨N, σ, ps, assign, body, some f0⟩ → ∀ don y r Y, partsL d x = don ++ y :: r → J don → AYieldX Tryz.prog Γ B K.length [encPt y] (K ++ .loop .ready none li :: Y) (fun v h' => (v = .bool true ∧ J (don ++ [y]) ∧ ∃ Z, NoLoop Z ∧ h' = K ++ .loop .ready none li :: (Y ++ Z)) ∨ (v = .bool false ∧ St don y ∧ ∃ Z, NoLoop Z ∧ h' = K ++ .loop .done (some .ret) li :: (Y ++ Z))) X)
    (hN : J (partsL d x) → ∀ Y, Q .normal σ (K ++ .dead :: Y))
    (hS : ∀ don y r, partsL d x = don ++ y :: r → St don y → ∀ Y, AWP Tryz.prog Γ N .ret Q σ (K ++ .dead :: Y))
    (hX : ∀ u, X u → Q (.panic (pan u)) σ (deadH B K)) : BWP Tryz.prog Γ f0 N (.rangeFunc g ps assign body) Q σ K := by
  have e : K = K ++ [] := (List.append_nil K).symm
  have := bwp_parts (Γ := Γ) (N := N) (B := B) (σ := σ) (Q := Q) (f0 := f0) (g := g) (ps := ps) (assign := assign) (body := body) (X := X) x d K (fun _ => []) J St hg hB hs hd 0 (fun _ => rfl) (fun _ ob ho => by simp at ho) hJ
    (by simpa only [List.append_nil, Nat.add_zero] using yl) (by simpa only [List.append_nil] using hN) (by simpa only [List.append_nil] using hS) (by simpa only [List.append_nil] using hX)
  simpa only [List.append_nil] using this
end
end Go.Proofs.YtjdhgaflenhljaaGreatDoor

/- The program's sizes. No conditions. -/
set_option linter.unusedSimpArgs false
set_option linter.unusedVariables false
namespace Go.Proofs.YtjdhgaflenhljaaGreatDoor
open Go Go.Proofs Go.Abs

theorem must_x (Γ : Nat → Option (List AV)) (B : Nat) (b : Bool) (e : Int) (h : AH) (hB : B ≤ h.length) {R : AV → AH → Prop} {X : Value → Prop} (ht : b = true → R (.tuple []) h) (hf : b = false → X (errU e)) : ACallsX Tryz.prog Γ B 82 [.bool b, .int .i64 e] h R X := by
  cases b with
  | true => exact ACallsX.det (must_calls Γ e h) (ht rfl)
  | false => exact (must_pan Γ B e h hB).mono (fun _ _ q => q.elim) (fun u hu => by rw [hu]; exact hf rfl)
theorem sameK {B : Nat} {K : AH} (hB : B ≤ K.length) (a b : AH) : Same B (K ++ a) (K ++ b) := fun i hi => by
  rw [List.getElem?_append_left (by omega), List.getElem?_append_left (by omega)]
set_option maxRecDepth 100000 in
theorem sizes_calls (Γ : Nat → Option (List AV)) (B : Nat) (p : Pol) (h : AH) (hB : B ≤ h.length) (hs : ShP p) (hsz : ∀ x ∈ exprs p, sizeX x ≤ 1000) :
    ACallsX Tryz.prog Γ B 61 [encPol p] h (fun v h' => h' = h ∧ v = .tuple [] ∧ sizedF p = true) fun u => u = errU 2 ∧ sizedF p = false := by
  refine ACallsX.drop ?_
  refine acallsX_code (rs := []) 61 Tryz.func61 rfl rfl rfl rfl (by kernel_rfl) ?_
  have hk := hs.kinds
  have ho := hs.offices
  have hr := hs.rules
  have c1 := fun h hl => exprs_calls Γ p h hs hl
  have hd : sizedF p = (decide (p.offices.length ≤ 32 ∧ p.kinds.length ≤ 16 ∧ p.rules.length ≤ 16) && (exprs p).all fun x => !largeF x) := rfl
  rw [encPol_eq] at c1 ⊢
  simp (disch := omega) only [go_sem, seval, encT_len, List.length_map]
  obtain ⟨ok, hok⟩ : ∃ ok, ok = decide (p.offices.length ≤ 32 ∧ p.kinds.length ≤ 16 ∧ p.rules.length ≤ 16) := ⟨_, rfl⟩
  rw [← hok] at hd
  have hS : Same B h (h ++ [.row [.str ⟨⟨p.name⟩⟩, .sl (encT p.kinds) .free, .sl (encT p.offices) .free, .sl (p.rules.map encRl) .free, .int .i64 p.change.k, .int .i64 p.change.n, .int .i64 p.change.no, .str ⟨⟨p.change.name⟩⟩, .sl (p.change.l.map encX) .free, .int .i64 p.mode] 37]) := .app h _ hB
  refine aIf.intro (fun h1 => ?_) (fun h1 => ?_) <;> simp (disch := omega) only [go_sem, seval, encT_len, List.length_map]
  rotate_left
  · rw [decide_eq_false (by omega)] at hok
    refine must_x Γ _ _ _ _ (by simp; omega) (fun e => by cases e) (fun _ => ?_)
    exact panSame hS (by simp) ⟨rfl, by rw [hd, hok]; rfl⟩
  refine aIf.intro (fun h2 => ?_) (fun h2 => ?_) <;> simp (disch := omega) only [go_sem, seval, encT_len, List.length_map]
  rotate_left
  · rw [decide_eq_false (by omega)] at hok
    refine must_x Γ _ _ _ _ (by simp; omega) (fun e => by cases e) (fun _ => ?_)
    exact panSame hS (by simp) ⟨rfl, by rw [hd, hok]; rfl⟩
  refine must_x Γ _ _ _ _ (by simp; omega) (fun h3 => ?_) (fun h3 => ?_)
  rotate_left
  · have h3 := of_decide_eq_false h3
    rw [decide_eq_false (by omega)] at hok
    exact panSame hS (by simp) ⟨rfl, by rw [hd, hok]; rfl⟩
  have h3 := of_decide_eq_true h3
  rw [decide_eq_true (by omega)] at hok
  rw [hok, Bool.true_and] at hd
  simp (disch := omega) only [go_sem, seval]
  refine ACallsX.det (c1 _ (by omega)) ?_
  simp (disch := omega) only [go_sem, seval, List.length_map]
  have hxl : (exprs p).length = p.rules.length + 1 := by simp [exprs]
  refine bwp_loopL (B := B) (β := AH) (exprs p) [1, 24, 25, 26] (fun don _ => [(1, .ptr (some (h.length, 0))), (24, .sl ((exprs p).map encX) .free), (25, .int .i64 (exprs p).length), (26, .int .i64 don.length)]) (fun Y => h ++ .row [.str ⟨⟨p.name⟩⟩, .sl (encT p.kinds) .free, .sl (encT p.offices) .free, .sl (p.rules.map encRl) .free, .int .i64 p.change.k, .int .i64 p.change.n, .int .i64 p.change.no, .str ⟨⟨p.change.name⟩⟩, .sl (p.change.l.map encX) .free, .int .i64 p.mode] 37 :: Y)
    (fun don _ _ => don.all (fun x => !largeF x) = true) [] ?_ rfl rfl (by kernel_rfl) ?_ ?_
  · simp (disch := omega) only [go_sem, seval]
  · rintro don x r Y hdn hp
    have hlen : (exprs p).length = don.length + 1 + r.length := by rw [hdn]; simp; omega
    have e1 : ((exprs p).map encX)[don.length]? = some (encX x) := by rw [hdn]; exact rowMid ..
    have hx : x ∈ exprs p := by rw [hdn]; simp
    simp (disch := omega) only [go_sem, seval, List.length_map]
    refine aIf.pos (by omega) ?_
    rw [encX_chC, chC] at e1
    simp (disch := omega) only [go_sem, seval, e1]
    refine ACallsX.det ((parts_calls Γ x 1 _).args (by rw [encX_chC, chC]; rfl)) ?_
    simp (disch := omega) only [go_sem, seval, partsV]
    refine BWP.keep [1, 4, 24, 25, 26, 31] ?_
    simp (disch := omega) only [go_sem, seval]
    obtain ⟨K, hK⟩ : ∃ K : AH, K = h ++ .row [.str ⟨⟨p.name⟩⟩, .sl (encT p.kinds) .free, .sl (encT p.offices) .free, .sl (p.rules.map encRl) .free, .int .i64 p.change.k, .int .i64 p.change.n, .int .i64 p.change.no, .str ⟨⟨p.change.name⟩⟩, .sl (p.change.l.map encX) .free, .int .i64 p.mode] 37 :: (Y ++ [.row [.int .i64 x.k, .int .i64 x.n, .int .i64 x.no, .str ⟨⟨x.name⟩⟩, .sl (x.l.map encX) .free] 35]) := ⟨_, rfl⟩
    have hKl : h.length + (Y.length + 1 + 1) = K.length := by rw [hK]; simp
    have hSK : ∀ l, Same B h (K ++ l) := fun l => by rw [hK, List.append_assoc]; exact .app h _ hB
    have hh : ∀ l, h ++ .row [.str ⟨⟨p.name⟩⟩, .sl (encT p.kinds) .free, .sl (encT p.offices) .free, .sl (p.rules.map encRl) .free, .int .i64 p.change.k, .int .i64 p.change.n, .int .i64 p.change.no, .str ⟨⟨p.change.name⟩⟩, .sl (p.change.l.map encX) .free, .int .i64 p.mode] 37 :: (Y ++ .row [.int .i64 x.k, .int .i64 x.n, .int .i64 x.no, .str ⟨⟨x.name⟩⟩, .sl (x.l.map encX) .free] 35 :: l) = K ++ l := fun l => by rw [hK]; simp
    rw [hKl, hh]
    have hsx : sizeX x ≤ 1000 := hsz x hx
    have hshx : ShX x := by
      rw [exprs] at hx
      rcases List.mem_append.1 hx with hx | hx
      · obtain ⟨r, hr, rfl⟩ := List.mem_map.1 hx; exact hs.rulesX r hr
      · rw [List.mem_singleton] at hx; subst hx; exact hs.change
    have hdep := depth_size x
    have bad : ∀ don y r, partsL 1 x = don ++ y :: r → ¬ (don.length + 1 ≤ 256 ∧ y.2 ≤ 16) → sizedF p = false := fun don y r e hn => by
      have hl := congrArg List.length e
      rw [partsL_len] at hl
      simp only [List.length_append, List.length_cons] at hl
      have hL : largeF x = true := by
        rw [largeF, Bool.or_eq_true, decide_eq_true_eq, decide_eq_true_eq]
        by_cases h1 : don.length + 1 ≤ 256
        · right
          have h2 : ¬ y.2 ≤ 16 := fun h2 => hn ⟨h1, h2⟩
          rw [← Nat.not_le]
          intro h3
          exact h2 ((partsL_deep 16 1 x (by omega)).2 (by omega) y (by rw [e]; simp))
        · left; omega
      rw [hd, hdn, List.all_append, List.all_cons, hL]; simp
    refine bwp_parts (B := B) (X := fun u => u = errU 2 ∧ sizedF p = false) x 1 K (fun don => [.row [.int .i64 don.length] 3]) (fun don => don.length ≤ 256 ∧ ∀ y ∈ don, y.2 ≤ 16) (fun _ _ => False) ?_ (by rw [hK]; simp; omega) hshx (by omega) 1 (fun _ => rfl) (fun don ob ho st pe li e => by rw [List.mem_singleton] at ho; subst ho; cases e) ⟨by simp, by simp⟩ ?_ ?_ ?_ ?_
    · simp (disch := omega) only [go_sem, seval, partsV]
    · rintro li hli don y r Z hdy ⟨j1, j2⟩
      rw [encPt, chC]
      refine ayieldX_L hli Tryz.func61 (by simp) rfl rfl Ty.mixed (by kernel_rfl) (by kernel_rfl) ?_
      simp (disch := omega) only [go_sem, seval]
      have hBK : B ≤ K.length := by rw [hK]; simp; omega
      refine aIf.intro (fun h4 => ?_) (fun h4 => ?_) <;> simp (disch := omega) only [go_sem, seval]
      · refine must_x Γ _ _ _ _ (by simp; omega) (fun h5 => ?_) (fun h5 => ?_)
        · have h5 := of_decide_eq_true h5
          simp (disch := omega) only [go_sem, seval]
          refine .inl ⟨⟨by simp; omega, fun z hz => ?_⟩, [.row [.int .i64 y.1.k, .int .i64 y.1.n, .int .i64 y.1.no, .str ⟨⟨y.1.name⟩⟩, .sl (y.1.l.map encX) .free, .int .i64 y.2] 104], ?_, ?_⟩
          · rcases List.mem_append.1 hz with hz | hz
            · exact j2 z hz
            · rw [List.mem_singleton] at hz; subst hz; omega
          · intro ob ho st pe lj e; rw [List.mem_singleton] at ho; subst ho; cases e
          · simp
        · have h5 := of_decide_eq_false h5
          exact panSame (sameK hBK _ _) (by simp) ⟨rfl, bad don y r hdy (by omega)⟩
      · refine must_x Γ _ _ _ _ (by simp; omega) (fun h5 => by cases h5) (fun h5 => ?_)
        exact panSame (sameK hBK _ _) (by simp) ⟨rfl, bad don y r hdy (by omega)⟩
    · rintro ⟨j1, j2⟩ Z
      have hgood : largeF x = false := by
        rw [partsL_len] at j1
        have := (partsL_deep 16 1 x (by omega)).1 j2
        rw [largeF, decide_eq_false (by omega), decide_eq_false (by omega)]; rfl
      simp (disch := omega) only [go_sem, seval]
      refine bCode_ok (B := B) _ _ _ _ (by kernel_rfl) ?_
      simp (disch := omega) only [go_sem, seval]
      refine roundL_next (Y ++ .row [.int .i64 x.k, .int .i64 x.n, .int .i64 x.no, .str ⟨⟨x.name⟩⟩, .sl (x.l.map encX) .free] 35 :: .row [.int .i64 (partsL 1 x).length] 3 :: .dead :: Z) ?_ ?_ ?_
      · rw [List.all_append, hp, List.all_cons, hgood]; rfl
      · simp (disch := omega) only [go_sem, seval, List.length_append]
      · rw [hK]; simp
    · rintro don y r _ hF; exact hF.elim
    · rintro u ⟨rfl, hu⟩
      exact panSame (hSK _) (by rw [hK]; simp) ⟨rfl, hu⟩
  · rintro Y hp
    simp (disch := omega) only [go_sem, seval, List.length_map]
    rw [hd, hp]
end Go.Proofs.YtjdhgaflenhljaaGreatDoor

/- The program's names. No conditions. -/
set_option linter.unusedSimpArgs false
set_option linter.unusedVariables false
namespace Go.Proofs.YtjdhgaflenhljaaGreatDoor
open Go Go.Proofs Go.Abs

theorem ShP.ex {p : Pol} (hs : ShP p) {x : Ex} (hx : x ∈ exprs p) : ShX x := by
  rw [exprs] at hx
  rcases List.mem_append.1 hx with hx | hx
  · obtain ⟨r, hr, rfl⟩ := List.mem_map.1 hx; exact hs.rulesX r hr
  · rw [List.mem_singleton] at hx; subst hx; exact hs.change
set_option maxRecDepth 100000 in
theorem names_calls (Γ : Nat → Option (List AV)) (B : Nat) (p : Pol) (h : AH) (hB : B ≤ h.length) (hs : ShP p) (hsz : ∀ x ∈ exprs p, sizeX x ≤ 1000) (hrl : p.rules.length ≤ 1000000) :
    ACallsX Tryz.prog Γ B 62 [encPol p] h (fun v h' => h' = h ∧ v = .tuple [] ∧ namesF p = true) fun u => u = errU 201 ∧ namesF p = false := by
  refine ACallsX.drop ?_
  refine acallsX_code (rs := []) 62 Tryz.func62 rfl rfl rfl rfl (by kernel_rfl) ?_
  have c1 := fun h => exprs_calls Γ p h hs hrl
  have hd : namesF p = ((freeL p.name && distT p.offices && distT p.kinds) && (exprs p).all (allX (namedF p.offices))) := rfl
  have ho := hs.offices
  rw [encPol_eq] at c1 ⊢
  have hS : Same B h (h ++ [.row [.str ⟨⟨p.name⟩⟩, .sl (encT p.kinds) .free, .sl (encT p.offices) .free, .sl (p.rules.map encRl) .free, .int .i64 p.change.k, .int .i64 p.change.n, .int .i64 p.change.no, .str ⟨⟨p.change.name⟩⟩, .sl (p.change.l.map encX) .free, .int .i64 p.mode] 37]) := .app h _ hB
  simp (disch := omega) only [go_sem, seval]
  refine ACallsX.det (isFree_calls Γ p.name _ hs.name) ?_
  simp (disch := omega) only [go_sem, seval]
  cases h1 : freeL p.name <;> rw [h1] at hd <;> simp (disch := omega) only [go_sem, seval]
  · refine must_x Γ _ _ _ _ (by simp; omega) (fun e => by cases e) (fun _ => ?_)
    exact panSame hS (by simp) ⟨rfl, by rw [hd]; rfl⟩
  refine ACallsX.det (pdistinct_calls Γ p.offices _ hs.offices hs.officesT) ?_
  simp (disch := omega) only [go_sem, seval]
  cases h2 : distT p.offices <;> rw [h2] at hd <;> simp (disch := omega) only [go_sem, seval]
  · refine must_x Γ _ _ _ _ (by simp; omega) (fun e => by cases e) (fun _ => ?_)
    exact panSame hS (by simp) ⟨rfl, by rw [hd]; rfl⟩
  refine ACallsX.det (pdistinct_calls Γ p.kinds _ hs.kinds hs.kindsT) ?_
  simp (disch := omega) only [go_sem, seval]
  refine must_x Γ _ _ _ _ (by simp; omega) (fun h3 => ?_) (fun h3 => ?_)
  rotate_left
  · rw [h3] at hd
    exact panSame hS (by simp) ⟨rfl, by rw [hd]; rfl⟩
  rw [h3] at hd
  have hd : namesF p = (exprs p).all (allX (namedF p.offices)) := hd
  simp (disch := omega) only [go_sem, seval]
  refine ACallsX.det (c1 _) ?_
  simp (disch := omega) only [go_sem, seval, List.length_map]
  have hxl : (exprs p).length = p.rules.length + 1 := by simp [exprs]
  refine bwp_loopL (B := B) (β := AH) (exprs p) [1, 20, 21, 22] (fun don _ => [(1, .ptr (some (h.length, 0))), (20, .sl ((exprs p).map encX) .free), (21, .int .i64 (exprs p).length), (22, .int .i64 don.length)]) (fun Y => h ++ .row [.str ⟨⟨p.name⟩⟩, .sl (encT p.kinds) .free, .sl (encT p.offices) .free, .sl (p.rules.map encRl) .free, .int .i64 p.change.k, .int .i64 p.change.n, .int .i64 p.change.no, .str ⟨⟨p.change.name⟩⟩, .sl (p.change.l.map encX) .free, .int .i64 p.mode] 37 :: Y)
    (fun don _ _ => don.all (allX (namedF p.offices)) = true) [] ?_ rfl rfl (by kernel_rfl) ?_ ?_
  · simp (disch := omega) only [go_sem, seval]
  · rintro don x r Y hdn hp
    have hlen : (exprs p).length = don.length + 1 + r.length := by rw [hdn]; simp; omega
    have e1 : ((exprs p).map encX)[don.length]? = some (encX x) := by rw [hdn]; exact rowMid ..
    have hx : x ∈ exprs p := by rw [hdn]; simp
    simp (disch := omega) only [go_sem, seval, List.length_map]
    refine aIf.pos (by omega) ?_
    rw [encX_chC, chC] at e1
    simp (disch := omega) only [go_sem, seval, e1]
    refine ACallsX.det ((parts_calls Γ x 1 _).args (by rw [encX_chC, chC]; rfl)) ?_
    simp (disch := omega) only [go_sem, seval, partsV]
    refine BWP.keep [1, 20, 21, 22, 27] ?_
    simp (disch := omega) only [go_sem, seval]
    obtain ⟨K, hK⟩ : ∃ K : AH, K = h ++ .row [.str ⟨⟨p.name⟩⟩, .sl (encT p.kinds) .free, .sl (encT p.offices) .free, .sl (p.rules.map encRl) .free, .int .i64 p.change.k, .int .i64 p.change.n, .int .i64 p.change.no, .str ⟨⟨p.change.name⟩⟩, .sl (p.change.l.map encX) .free, .int .i64 p.mode] 37 :: (Y ++ [.row [.int .i64 x.k, .int .i64 x.n, .int .i64 x.no, .str ⟨⟨x.name⟩⟩, .sl (x.l.map encX) .free] 35]) := ⟨_, rfl⟩
    have hKl : h.length + (Y.length + 1 + 1) = K.length := by rw [hK]; simp
    have hSK : ∀ l, Same B h (K ++ l) := fun l => by rw [hK, List.append_assoc]; exact .app h _ hB
    have hKp : ∀ l, (K ++ l)[h.length]? = some (.row [.str ⟨⟨p.name⟩⟩, .sl (encT p.kinds) .free, .sl (encT p.offices) .free, .sl (p.rules.map encRl) .free, .int .i64 p.change.k, .int .i64 p.change.n, .int .i64 p.change.no, .str ⟨⟨p.change.name⟩⟩, .sl (p.change.l.map encX) .free, .int .i64 p.mode] 37) := fun l => by rw [hK]; simp
    rw [← hK]
    have hdep := depth_size x
    have hsx : sizeX x ≤ 1000 := hsz x hx
    have hBK : B ≤ K.length := by rw [hK]; simp; omega
    have bad : ∀ don y r, partsL 1 x = don ++ y :: r → namedF p.offices y.1 = false → namesF p = false := fun dn y r e hn => by
      have : allX (namedF p.offices) x = false := by
        rw [← partsL_all (namedF p.offices) 1 x, e, List.all_append, List.all_cons, hn]; simp
      rw [hd, hdn, List.all_append, List.all_cons, this]; simp
    refine bwp_parts0 (B := B) (X := fun u => u = errU 201 ∧ namesF p = false) x 1 K (fun don => don.all (fun y => namedF p.offices y.1) = true) (fun _ _ => False) ?_ hBK (hs.ex hx) (by omega) rfl ?_ ?_ ?_ ?_
    · simp (disch := omega) only [go_sem, seval, partsV]
    · rintro li hli don y r Z hdy j1
      rw [encPt, chC]
      refine ayieldX_L hli Tryz.func62 (by simp) rfl rfl Ty.mixed (by kernel_rfl) (by kernel_rfl) ?_
      simp (disch := omega) only [go_sem, seval]
      have hnd : namedF p.offices y.1 = (!isNmd y.1 || decide (0 ≤ idxT p.offices y.1.name)) := rfl
      have hnl : NoLoop [.row [.int .i64 y.1.k, .int .i64 y.1.n, .int .i64 y.1.no, .str ⟨⟨y.1.name⟩⟩, .sl (y.1.l.map encX) .free, .int .i64 y.2] 104] := fun ob ho st pe lj e => by rw [List.mem_singleton] at ho; subst ho; cases e
      refine ACallsX.det ((isNamed_calls Γ y.1 _).args (by rw [encX_eq])) ?_
      simp (disch := omega) only [go_sem, seval]
      cases hb : isNmd y.1 <;> rw [hb] at hnd <;> simp (disch := omega) only [go_sem, seval]
      · refine must_x Γ _ _ _ _ (by simp; omega) (fun h5 => ?_) (fun h5 => by cases h5)
        simp (disch := omega) only [go_sem, seval]
        refine .inl ⟨?_, _, hnl, by simp⟩
        rw [List.all_append, j1, List.all_cons, hnd]; rfl
      · simp (disch := omega) only [go_sem, seval, hKp]
        refine ACallsX.det (scontains_calls Γ p.offices y.1.name _ ho) ?_
        simp (disch := omega) only [go_sem, seval]
        refine must_x Γ _ _ _ _ (by simp; omega) (fun h5 => ?_) (fun h5 => ?_)
        · simp (disch := omega) only [go_sem, seval]
          refine .inl ⟨?_, _, hnl, by simp⟩
          rw [List.all_append, j1, List.all_cons, hnd, h5]; rfl
        · exact panSame (sameK hBK _ _) (by simp) ⟨rfl, bad don y r hdy (by rw [hnd, h5]; rfl)⟩
    · rintro j1 Z
      rw [partsL_all] at j1
      simp (disch := omega) only [go_sem, seval]
      refine bCode_ok (B := B) _ _ _ _ (by kernel_rfl) ?_
      simp (disch := omega) only [go_sem, seval]
      refine roundL_next (Y ++ .row [.int .i64 x.k, .int .i64 x.n, .int .i64 x.no, .str ⟨⟨x.name⟩⟩, .sl (x.l.map encX) .free] 35 :: .dead :: Z) ?_ ?_ ?_
      · rw [List.all_append, hp, List.all_cons, j1]; rfl
      · simp (disch := omega) only [go_sem, seval, List.length_append]
      · rw [hK]; simp
    · rintro don y r _ hF; exact hF.elim
    · rintro u ⟨rfl, hu⟩
      exact panSame (by have := hSK []; rwa [List.append_nil] at this) (by rw [hK]; simp) ⟨rfl, hu⟩
  · rintro Y hp
    simp (disch := omega) only [go_sem, seval, List.length_map]
    rw [hd, hp]
end Go.Proofs.YtjdhgaflenhljaaGreatDoor
