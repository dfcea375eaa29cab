/- Texts joined: LokC, LokD, LokE, LokF. No conditions. -/
import Derived.Test.YtlgamlamolfnlaaGreatMrAB
import Derived.Test.YtlgamlamolfnlaaGreatMrAA
/- The program's coalitions: the walk. No conditions. -/
set_option linter.unusedSimpArgs false
set_option linter.unusedVariables false
namespace Go.Proofs.YtlgamlamolfnlaaGreat
open Go Go.Proofs Go.Abs

theorem choose_step (l : List Int) (i k : Nat) (hi : i < l.length) : chooseF (l.drop i) (k + 1) = (chooseF (l.drop (i + 1)) k).map (l[i] :: ·) ++ chooseF (l.drop (i + 1)) (k + 1) := by
  rw [List.drop_eq_getElem_cons hi, chooseF]
theorem choose_end (l : List Int) (k : Nat) : chooseF (l.drop l.length) (k + 1) = [] := by rw [List.drop_length, chooseF]
def coalV (l : List Int) (size yb wc : Nat) : AV := .func 56 [] [.eptr [.int .i64 size], .ptr (some (yb, 0)), .eptr [.sl (encI l) .free], .ptr (some (wc, 0))]
def encL1 (x : List Int) : AV := .sl (encI x) .free
structure WkS where
  i : Nat
  h : AH
set_option maxRecDepth 100000 in
theorem coal_calls (Γ : Nat → Option (List AV)) (l : List Int) (size L b : Nat) (items : List (List Int)) (Inv : List (List Int) → AH → Prop) (Stp : AH → Prop) (C : Consumer Tryz.prog Γ AppNL L b encL1 items Inv Stp) (hl : l.length ≤ 12) (yb wc : Nat) (hyb : b ≤ yb) (hwb : b ≤ wc) :
    ∀ (k fr : Nat) (who : List Int) (don rest : List (List Int)) (h : AH), l.length < fr + k → fr ≤ l.length → who.length ≤ fr → who.length ≤ size → size ≤ 1000 →
      items = don ++ (chooseF (l.drop fr) (size - who.length)).map (who ++ ·) ++ rest → b ≤ h.length → Inv don h → h[yb]? = some (.row [.yield L] 63) → h[wc]? = some (.row [coalV l size yb wc] 81) →
      ACalls Tryz.prog Γ 56 [.int .i64 fr, .sl (encI who) .free, .eptr [.int .i64 size], .ptr (some (yb, 0)), .eptr [.sl (encI l) .free], .ptr (some (wc, 0))] h fun v h' => Kept b h h' ∧ ((v = .bool true ∧ Inv (don ++ (chooseF (l.drop fr) (size - who.length)).map (who ++ ·)) h') ∨ (v = .bool false ∧ Stp h'))
  | 0, fr, who, don, rest, h, hk, hfr, _, _, _, _, _, _, _, _ => absurd hk (by omega)
  | k + 1, fr, who, don, rest, h, hk, hfr, hwl, hws, hsz, hit, hbh, hI, hy, hw => by
    have hy' := hget_of hy
    have hw' := hget_of hw
    refine acalls_of_awp Tryz.func56 rfl rfl rfl (rs := [.tmp 8]) rfl ?_
    refine awp_seq (aCode_ok Ty.mixed _ _ _ _ (by kernel_rfl) ?_)
    simp (disch := omega) only [go_sem, seval]
    refine awp_seq (awp_seq (aCode_ok Ty.mixed _ _ _ _ (by kernel_rfl) ?_))
    simp (disch := omega) only [go_sem, seval, encI_len]
    refine awp_cond (b := decide ((who.length : Int) = (size : Int))) rfl (fun hc => ?_) (fun hc => ?_)
    · have hfull : who.length = size := by exact_mod_cast of_decide_eq_true hc
      have hch : (chooseF (l.drop fr) (size - who.length)).map (who ++ ·) = [who] := by
        rw [hfull, Nat.sub_self]; cases l.drop fr <;> simp [chooseF]
      rw [hch] at hit ⊢
      refine awp_seq (awp_drawS 3 (by kernel_rfl) Ty.mixed (by kernel_rfl) (by kernel_rfl) ?_ ?_)
      · simp (disch := omega) only [go_sem, seval, seps]
      · simp (disch := omega) only [go_sem, seval, hy]
        refine aCallF.intro (fun _ => cloneF_calls Γ who _ (by omega)) ?_
        simp (disch := omega) only [go_sem, seval, hy]
        refine (C.yl don who rest h (by rw [hit]; simp) hbh hI).mono ?_
        rintro v h' ⟨hk1, hk2⟩
        rcases hk2 with ⟨rfl, hI2⟩ | ⟨rfl, hS2⟩
        · simp (disch := omega) only [go_sem, seval]
          refine aCode_ok Ty.mixed _ _ _ _ (by kernel_rfl) ?_
          simp (disch := omega) only [go_sem, seval]
          exact ⟨hk1, .inl hI2⟩
        · simp (disch := omega) only [go_sem, seval]
          refine aCode_ok Ty.mixed _ _ _ _ (by kernel_rfl) ?_
          simp (disch := omega) only [go_sem, seval]
          exact ⟨hk1, .inr hS2⟩
    · have hfull : who.length ≠ size := fun e => by simp [e] at hc
      refine awp_skip ?_
      simp (disch := omega) only [go_sem, seval]
      refine awp_seq (awp_seq (aCode_ok Ty.mixed _ _ _ _ (by kernel_rfl) ?_))
      simp (disch := omega) only [go_sem, seval]
      refine awp_block ?_
      obtain ⟨m, hm⟩ : ∃ m, size - who.length = m + 1 := ⟨size - who.length - 1, by omega⟩
      rw [hm] at hit ⊢
      refine awp_loopLW (β := WkS) (l.drop fr) [1, 2, 3, 4, 5, 9] (fun _ x => [(1, .sl (encI who) .free), (2, .eptr [.int .i64 size]), (3, .ptr (some (yb, 0))), (4, .eptr [.sl (encI l) .free]), (5, .ptr (some (wc, 0))), (9, .int .i64 x.i)]) (fun x => x.h)
        (fun dn r x => x.i = fr + dn.length ∧ r = l.drop x.i ∧ Kept b h x.h ∧ ∃ pr, (chooseF (l.drop fr) (m + 1)).map (who ++ ·) = pr ++ (chooseF r (m + 1)).map (who ++ ·) ∧ Inv (don ++ pr) x.h) ⟨fr, h⟩ ?_ rfl ⟨rfl, rfl, .refl _ _, [], rfl, by simpa using hI⟩ ?_ ?_
      · simp (disch := omega) only [go_sem, seval]
      · rintro dn x r ⟨i, h1⟩ hdn ⟨hi, hr, hk1, pr, hpr, hI1⟩
        simp only at hi hr hk1 hI1 ⊢
        refine awp_seq (awp_seq (aCode_ok Ty.mixed _ _ _ _ (by kernel_rfl) ?_))
        simp (disch := omega) only [go_sem, seval, encI_len]
        have hil : i < l.length := by
          have := congrArg List.length hr
          simp at this; omega
        have hx : x = l[i] ∧ r = l.drop (i + 1) := by
          rw [List.drop_eq_getElem_cons hil] at hr
          exact List.cons.inj hr
        have hw1 := hk1.fn wc _ _ hwb rfl hw
        have hy1 := hk1.fn yb _ _ hyb rfl hy
        have e1 : (encI l)[i]? = some (.int .i64 x) := by rw [hx.1]; simp [encI, hil]
        refine awp_cond (b := decide ((i : Int) < (l.length : Int))) rfl (fun hc => awp_skip ?_) (fun hc => absurd hc (by simp; omega))
        simp (disch := omega) only [go_sem, seval]
        refine awp_seq (awp_block (awp_seq (awp_drawS 11 (by kernel_rfl) Ty.mixed (by kernel_rfl) (by kernel_rfl) ?_ ?_)))
        · simp (disch := omega) only [go_sem, seval, seps]
        simp (disch := omega) only [go_sem, seval, hw1, encI_len, e1]
        refine aCallF.intro (fun _ => clip_calls Γ who _ (by omega)) ?_
        simp (disch := omega) only [go_sem, seval, hw1, encI_len, e1]
        refine aAp_full (rowsOK_I _) (rowsOK_I [x]) (by simp [encI_len]; omega) (by simp [encI_len]; omega) ?_
        rw [encI_snoc]
        have hiw : IntKind.i64.wrap ((i : Int) + 1) = ((i + 1 : Nat) : Int) := IntWalk.i64_in _ ⟨by omega, by omega⟩
        have hka : Kept b h1 (h1 ++ [.arena ((encI who).length + [AV.int .i64 x].length)]) := .app b h1 (fun ob ho st pe li e => by rw [List.mem_singleton] at ho; subst ho; cases e)
        have hfa : AppNL h1 (h1 ++ [.arena ((encI who).length + [AV.int .i64 x].length)]) := ⟨_, (fun ob ho st pe li e => by rw [List.mem_singleton] at ho; subst ho; cases e), rfl⟩
        have e2 : (chooseF (x :: r) (m + 1)).map (who ++ ·) = (chooseF r m).map (who ++ [x] ++ ·) ++ (chooseF r (m + 1)).map (who ++ ·) := by
          rw [chooseF, List.map_append, List.map_map]
          congr 1
          refine List.map_congr_left fun y _ => ?_
          simp
        have hsm : size - (who ++ [x]).length = m := by simp; omega
        have ih := coal_calls Γ l size L b items Inv Stp C hl yb wc hyb hwb k (i + 1) (who ++ [x]) (don ++ pr) ((chooseF r (m + 1)).map (who ++ ·) ++ rest) (h1 ++ [.arena ((encI who).length + [AV.int .i64 x].length)])
          (by omega) (by omega) (by simp; omega) (by simp; omega) hsz (by rw [hsm, ← hx.2, hit, hpr, e2]; simp only [List.append_assoc]) (by simp; have := hk1.len; omega) (C.inv _ _ _ hI1 hfa) (hka.fn yb _ _ hyb rfl hy1) (hka.fn wc _ _ hwb rfl hw1)
        rw [hsm, ← hx.2] at ih
        simp (disch := omega) only [go_sem, seval, coalV, hiw]
        refine ((ACalls.ofLoose ih ?_).mono ?_)
        · simp (disch := omega) only [go_sem, seval]
        rintro v h' ⟨hk2, hk3⟩
        have hk4 := (hk1.trans hka).trans hk2
        rcases hk3 with ⟨rfl, hI2⟩ | ⟨rfl, hS2⟩
        · simp (disch := omega) only [go_sem, seval]
          refine awp_cond (b := false) rfl (fun hc => by cases hc) (fun hc => awp_skip ?_)
          simp (disch := omega) only [go_sem, seval]
          refine aCode_ok Ty.mixed _ _ _ _ (by kernel_rfl) ?_
          simp (disch := omega) only [go_sem, seval, hiw]
          refine roundL_next ⟨i + 1, h'⟩ ⟨?_, hx.2, hk4, pr ++ (chooseF r m).map (who ++ [x] ++ ·), ?_, ?_⟩ ?_ rfl
          · simp; omega
          · rw [hpr, e2, List.append_assoc]
          · rw [← List.append_assoc]; exact hI2
          · simp (disch := omega) only [go_sem, seval]
        · simp (disch := omega) only [go_sem, seval]
          refine awp_cond (b := true) rfl (fun hc => ?_) (fun hc => by cases hc)
          refine aCode_ok Ty.mixed _ _ _ _ (by kernel_rfl) ?_
          simp (disch := omega) only [go_sem, seval]
          exact ⟨hk4, .inr hS2⟩
      · rintro ⟨i, h1⟩ ⟨hi, hr, hk1, pr, hpr, hI1⟩
        simp only at hi hr hk1 hI1 ⊢
        refine awp_seq (awp_seq (aCode_ok Ty.mixed _ _ _ _ (by kernel_rfl) ?_))
        simp (disch := omega) only [go_sem, seval, encI_len]
        have hil : ¬ i < l.length := fun h => by
          have := congrArg List.length hr
          simp at this; omega
        refine awp_cond (b := decide ((i : Int) < (l.length : Int))) rfl (fun hc => absurd hc (by simp; omega)) (fun hc => awp_exit ?_)
        simp (disch := omega) only [go_sem, seval]
        refine aCode_ok Ty.mixed _ _ _ _ (by kernel_rfl) ?_
        simp (disch := omega) only [go_sem, seval]
        refine ⟨hk1, .inl ?_⟩
        have : (chooseF [] (m + 1)).map (who ++ ·) = [] := rfl
        rw [hpr, this, List.append_nil]; exact hI1
end Go.Proofs.YtlgamlamolfnlaaGreat

/- The program's coalitions and great coalitions: what they yield. No conditions. -/
set_option linter.unusedSimpArgs false
set_option linter.unusedVariables false
namespace Go.Proofs.YtlgamlamolfnlaaGreat
open Go Go.Proofs Go.Abs

def coalF (l : List Int) (size : Nat) : AV := .func 55 [] [.eptr [.int .i64 size], .eptr [.sl (encI l) .free]]
set_option maxRecDepth 100000 in
theorem coalitions_calls (Γ : Nat → Option (List AV)) (l : List Int) (size : Nat) (h : AH) :
    ACalls Tryz.prog Γ 30 [.sl (encI l) .free, .int .i64 size] h fun v h' => h' = h ∧ v = coalF l size := by
  refine ACalls.dropL ?_
  refine ACalls.freeze ?_
  refine ACalls.freeze ?_
  refine acalls_code (rs := [.tmp 4]) Tryz.func30 rfl rfl rfl rfl Ty.mixed (by kernel_rfl) ?_
  simp (disch := omega) only [go_sem, seval]
  have e1 : ∀ a b : AObj, (h ++ [a, b])[h.length]? = some a := fun a b => by simp
  have e2 : ∀ a b : AObj, ((h ++ [a, b]).set h.length .frozen)[h.length + 1]? = some b := fun a b => by rw [List.getElem?_set_ne (by omega)]; simp
  have e4 : ∀ a b : AObj, ∃ l, ((h ++ [a, b]).set h.length .frozen).set (h.length + 1) .frozen = h ++ l := fun a b => ⟨[.frozen, .frozen], by
    have : h.length = h.length + 0 := rfl
    rw [this, hset_add, Nat.add_zero, hset_add]; rfl⟩
  refine ⟨h.length, _, _, _, e1 _ _, Froze.set (e1 _ _), h.length + 1, _, _, _, e2 _ _, Froze.set (e2 _ _), e4 _ _, ?_, ?_⟩
  · simp only [fzV, fzL, if_true, List.drop_zero]
    rw [if_neg (by omega)]
    simp only [fzV, fzL, if_true, List.drop_zero, loose]
    exact .func (RBs.nil _) (RBs.cons (.eptr (RBs.cons (.int _ _) (RBs.nil _))) (RBs.cons (.eptr (RBs.cons (of_eq_true (rb_I _ _)) (RBs.nil _))) (RBs.nil _)))
  · simp only [fzV, fzL, if_true, List.drop_zero]
    rw [if_neg (by omega)]
    simp only [fzV, fzL, if_true, List.drop_zero, loose]
    rfl
set_option maxRecDepth 100000 in
theorem coal1_calls (Γ : Nat → Option (List AV)) (l : List Int) (size L b : Nat) (Inv : List (List Int) → AH → Prop) (Stp : AH → Prop) (C : Consumer Tryz.prog Γ AppNL L b encL1 (chooseF l size) Inv Stp) (hl : l.length ≤ 12) (hsz : size ≤ 1000) (h : AH) (hb : b ≤ h.length) (hI : Inv [] h) :
    ACalls Tryz.prog Γ 55 [.yield L, .eptr [.int .i64 size], .eptr [.sl (encI l) .free]] h fun _ h' => Kept b h h' ∧ (Inv (chooseF l size) h' ∨ Stp h') := by
  refine acalls_code (rs := []) Tryz.func55 rfl rfl rfl rfl Ty.mixed (by kernel_rfl) ?_
  simp (disch := omega) only [go_sem, seval]
  obtain ⟨X, hX⟩ : ∃ X : AH, X = [.row [.yield L] 63, .row [coalV l size h.length (h.length + 1)] 81] := ⟨_, rfl⟩
  have hn : NoLoop X := fun ob ho st pe li e => by
    subst hX
    simp only [List.mem_cons, List.not_mem_nil, or_false] at ho
    rcases ho with rfl | rfl <;> cases e
  have hk : Kept b h (h ++ X) := .app b h hn
  have hc := coal_calls Γ l size L b (chooseF l size) Inv Stp C hl h.length (h.length + 1) hb (by omega) (l.length + 1) 0 [] [] [] (h ++ X) (by omega) (by omega) (by simp) (by simp) hsz (by simp) (by simp; omega) (C.inv _ _ _ hI ⟨X, hn, rfl⟩) (by subst hX; simp) (by subst hX; simp)
  simp only [List.drop_zero, List.length_nil, Nat.sub_zero, List.nil_append, List.map_id'] at hc
  subst hX
  rw [coalV] at hc
  refine ((ACalls.ofLoose hc ?_).mono ?_)
  · simp (disch := omega) only [go_sem, seval]
    rfl
  rintro v h' ⟨hk2, hk3⟩
  simp (disch := omega) only [go_sem, seval]
  refine ⟨hk.trans hk2, ?_⟩
  rcases hk3 with ⟨_, h1⟩ | ⟨_, h1⟩
  · exact .inl h1
  · exact .inr h1
end Go.Proofs.YtlgamlamolfnlaaGreat

/- The program's great coalitions: what they yield. No conditions. -/
set_option linter.unusedSimpArgs false
set_option linter.unusedVariables false
namespace Go.Proofs.YtlgamlamolfnlaaGreat
open Go Go.Proofs Go.Abs

def greatV (g : Gt) (l : List Int) (most : Int) : AV := .func 60 [] [.eptr [.sl (encI l) .free], .eptr [.int .i64 most], .eptr (encG g).cells]
set_option maxRecDepth 100000 in
theorem great_calls (Γ : Nat → Option (List AV)) (g : Gt) (l : List Int) (most : Int) (h : AH) :
    ACalls Tryz.prog Γ 37 [encG g, .sl (encI l) .free, .int .i64 most] h fun v h' => h' = h ∧ v = greatV g l most := by
  rw [greatV]
  cases g with | mk p n gl =>
  refine ACalls.dropL ?_
  refine ACalls.freeze ?_
  refine ACalls.freeze ?_
  refine ACalls.freeze ?_
  simp only [encG_mk]
  refine acalls_code (rs := [.tmp 6]) Tryz.func37 rfl rfl rfl rfl Ty.mixed (by kernel_rfl) ?_
  simp (disch := omega) only [go_sem, seval]
  have e1 : ∀ a b c : AObj, (h ++ [a, b, c])[h.length]? = some a := fun a b c => by simp
  have e2 : ∀ a b c : AObj, ((h ++ [a, b, c]).set h.length .frozen)[h.length + 1]? = some b := fun a b c => by rw [List.getElem?_set_ne (by omega)]; simp
  have e3 : ∀ a b c : AObj, (((h ++ [a, b, c]).set h.length .frozen).set (h.length + 1) .frozen)[h.length + 2]? = some c := fun a b c => by rw [List.getElem?_set_ne (by omega), List.getElem?_set_ne (by omega)]; simp
  have e4 : ∀ a b c : AObj, ∃ l, (((h ++ [a, b, c]).set h.length .frozen).set (h.length + 1) .frozen).set (h.length + 2) .frozen = h ++ l := fun a b c => ⟨[.frozen, .frozen, .frozen], by
    have a1 : (h ++ [a, b, c]).set (h.length + 0) .frozen = h ++ [.frozen, b, c] := hset_add ..
    have a2 : (h ++ [.frozen, b, c]).set (h.length + 1) .frozen = h ++ [.frozen, .frozen, c] := hset_add ..
    have a3 : (h ++ [.frozen, .frozen, c]).set (h.length + 2) .frozen = h ++ [.frozen, .frozen, .frozen] := hset_add ..
    rw [Nat.add_zero] at a1
    rw [a1, a2, a3]⟩
  refine ⟨h.length, _, _, _, e1 _ _ _, Froze.set (e1 _ _ _), h.length + 1, _, _, _, e2 _ _ _, Froze.set (e2 _ _ _), h.length + 2, _, _, _, e3 _ _ _, Froze.set (e3 _ _ _), e4 _ _ _, ?_, ?_⟩
  · simp only [fzV, fzL, if_true, List.drop_zero]
    rw [if_neg (by omega), if_neg (by omega)]
    simp only [fzV, fzL, if_true, List.drop_zero]
    rw [if_neg (by omega)]
    simp only [fzV, fzL, if_true, List.drop_zero, loose, looseL, loose_Gs]
    exact .func (RBs.nil _) (RBs.cons (.eptr (RBs.cons (of_eq_true (rb_I _ _)) (RBs.nil _))) (RBs.cons (.eptr (RBs.cons (.int _ _) (RBs.nil _))) (RBs.cons (.eptr (RBs.cons (.int _ _) (RBs.cons (.int _ _) (RBs.cons (of_eq_true (rb_Gs _ _)) (RBs.nil _))))) (RBs.nil _))))
  · simp only [fzV, fzL, if_true, List.drop_zero]
    rw [if_neg (by omega), if_neg (by omega)]
    simp only [fzV, fzL, if_true, List.drop_zero]
    rw [if_neg (by omega)]
    simp only [fzV, fzL, if_true, List.drop_zero, loose, looseL, loose_Gs]
set_option maxRecDepth 100000 in
theorem great1_calls (Γ : Nat → Option (List AV)) (g : Gt) (l : List Int) (most : Int) (L b : Nat) (Inv : List (List Int) → AH → Prop) (Stp : AH → Prop) (C : Consumer Tryz.prog Γ (Fra b) L b encL1 ((chooseF l (min most.toNat l.length)).filter (permF g)) Inv Stp) (hs : Sh g) (hc : checkF g = 0) (hl : l.length ≤ 12) (hm : 0 ≤ most ∧ most ≤ 64) (h : AH) (hb : b ≤ h.length) (hI : Inv [] h) :
    ACalls Tryz.prog Γ 60 [.yield L, .eptr [.sl (encI l) .free], .eptr [.int .i64 most], .eptr (encG g).cells] h fun _ h' => Kept b h h' ∧ (Inv ((chooseF l (min most.toNat l.length)).filter (permF g)) h' ∨ Stp h') := by
  cases g with | mk p n gl =>
  obtain ⟨g, hg⟩ : ∃ g, g = Gt.mk p n gl := ⟨_, rfl⟩
  have eG : encG g = .agg [.int .i64 p, .int .i64 n, .sl (gl.map encG) .free] := by rw [hg, encG_mk]
  rw [← hg] at C hs hc ⊢
  have c0 := fun x hx h => holds26_calls Γ g x h hs hc hx
  rw [eG] at c0 ⊢
  rw [AV.cells]
  refine acalls_code (rs := []) Tryz.func60 rfl rfl rfl rfl Ty.mixed (by kernel_rfl) ?_
  simp (disch := omega) only [go_sem, seval, encI_len]
  obtain ⟨size, hsz⟩ : ∃ size, size = min most.toNat l.length := ⟨_, rfl⟩
  rw [show (if (l.length : Int) < most then (l.length : Int) else most) = (size : Int) from by rw [hsz]; split <;> omega]
  rw [← hsz] at C ⊢
  refine ACalls.det (coalitions_calls Γ l size _) ?_
  simp (disch := omega) only [go_sem, seval, coalF]
  refine AWP.keep [3, 4, 11] ?_
  simp (disch := omega) only [go_sem, seval]
  refine awp_rangeFuncNL rfl (fun li hli => ?_)
  obtain ⟨bx, hbx⟩ : ∃ bx : AObj, bx = .row [.yield L] 63 := ⟨_, rfl⟩
  have hn : NoLoop [bx] := fun ob ho st pe li e => by rw [List.mem_singleton] at ho; subst ho; rw [hbx] at e; cases e
  rw [← hbx]
  obtain ⟨L2, hL2⟩ : ∃ L2, L2 = (h ++ [bx]).length := ⟨_, rfl⟩
  have hL2' : L2 = h.length + 1 := by rw [hL2]; simp
  obtain ⟨H0, hH⟩ : ∃ H0 : AH, H0 = h ++ [bx] ++ [.loop .ready none li] := ⟨_, rfl⟩
  have H0l : H0.length = L2 + 1 := by rw [hH, hL2]; simp
  have H0L : H0[L2]? = some (.loop .ready none li) := by rw [hH, hL2]; simp
  have H0b : H0[h.length]? = some (.row [.yield L] 63) := by rw [hH, ← hbx]; simp
  rw [← hL2, ← hH]
  have C2 : Consumer Tryz.prog Γ AppNL L2 (L2 + 1) encL1 (chooseF l size) (fun don hx => Inv (don.filter (permF g)) hx ∧ Kept b H0 hx) (fun hx => Stp hx ∧ ∃ hy, Kept b H0 hy ∧ hx = hy.set L2 (.loop .done (some .ret) li)) := by
    refine ⟨?_, ?_, ?_⟩
    · rintro don h1 h2 ⟨k1, k2⟩ hcl
      obtain ⟨X, hX, rfl⟩ := hcl
      exact ⟨C.inv _ _ _ k1 (.app b h1 X), k2.trans (.app b h1 hX)⟩
    · rintro h1 h2 ⟨k1, hy, k2, rfl⟩ hcl
      obtain ⟨X, hX, rfl⟩ := hcl
      have := k2.len
      exact ⟨C.stp _ _ k1 (.app b _ X), hy ++ X, k2.trans (.app b hy hX), by rw [List.set_append_left _ _ (by omega)]⟩
    · rintro don x r h1 hdx hb1 ⟨k1, k2⟩
      have hxl : x.length = size := choose_mem l size x (by rw [hdx]; simp)
      have h1L : h1[L2]? = some (.loop .ready none li) := (k2.lp L2 _ _ _ (by omega)).1 H0L
      have h1b := k2.fn h.length _ _ hb rfl H0b
      have hset : (h1.set L2 (.loop .busy none li)).set L2 (.loop .ready none li) = h1 := by rw [List.set_set, hset_same h1L]
      have hbL : (h1.set L2 (.loop .busy none li))[L2]? = some (.loop .busy none li) := by rw [List.getElem?_set_self (hget_of h1L)]
      have hbb : (h1.set L2 (.loop .busy none li))[h.length]? = some (.row [.yield L] 63) := by rw [List.getElem?_set_ne (by omega)]; exact h1b
      rw [encL1]
      refine ayield_W hli h1L rfl rfl Ty.mixed (by kernel_rfl) ?_
      simp (disch := omega) only [go_sem, seval, h1L]
      refine aCode_ok Ty.mixed _ _ _ _ (by kernel_rfl) ?_
      simp (disch := omega) only [go_sem, seval]
      refine ACalls.det (c0 x (by omega) _) ?_
      simp (disch := omega) only [go_sem, seval]
      cases hp : permF g x with
      | false =>
        simp (disch := omega) only [go_sem, seval, hbL, hset]
        refine ⟨.refl _ _, .inl ⟨?_, k2⟩⟩
        rw [List.filter_append, List.filter_cons_of_neg (by simp [hp]), List.filter_nil, List.append_nil]; exact k1
      | true =>
        simp (disch := omega) only [go_sem, seval, hbb]
        have hfi : (chooseF l size).filter (permF g) = don.filter (permF g) ++ x :: r.filter (permF g) := by
          rw [hdx, List.filter_append, List.filter_cons_of_pos hp]
        refine (C.yl _ x _ _ hfi (by simp; omega) (C.inv _ _ _ k1 (.set (by omega) h1L _))).mono ?_
        rintro v h2 ⟨q1, q2⟩
        have h2L : h2[L2]? = some (.loop .busy none li) := (q1.lp L2 _ _ _ (by omega)).1 hbL
        have hfd : (don ++ [x]).filter (permF g) = don.filter (permF g) ++ [x] := by
          rw [List.filter_append, List.filter_cons_of_pos hp, List.filter_nil]
        have q3 := Kept.turn h1L q1
        rcases q2 with ⟨rfl, q2⟩ | ⟨rfl, q2⟩
        · simp (disch := omega) only [go_sem, seval, h2L]
          exact ⟨q3.mono (by omega), .inl ⟨by rw [hfd]; exact C.inv _ _ _ q2 (.set (by omega) h2L _), k2.trans q3⟩⟩
        · simp (disch := omega) only [go_sem, seval, h2L]
          refine ⟨?_, .inr ⟨C.stp _ _ q2 (.set (by omega) h2L _), h2.set L2 (.loop .ready none li), k2.trans q3, by rw [List.set_set]⟩⟩
          have := (q3.mono (show b ≤ L2 + 1 by omega)).setB (s := .done) (p := some .ret) (li := li) (Nat.lt_succ_self L2) h1L
          rwa [List.set_set] at this
  refine (coal1_calls Γ l size L2 (L2 + 1) _ _ C2 hl (by omega) H0 (by omega) ⟨C.inv _ _ _ hI (by rw [hH, List.append_assoc]; exact .app b h _), .refl _ _⟩).mono ?_
  rintro v h' ⟨q1, q2⟩
  subst hL2
  rcases q2 with ⟨q2, q3⟩ | ⟨q2, hy, q3, rfl⟩
  · have h'L := (q3.lp _ _ _ _ (by omega)).1 H0L
    refine rangeN_post (li0 := li) h'L (by rw [← hH]; exact q3.old) (by simp) ?_
    rw [afterLoop_none]
    simp (disch := omega) only [go_sem, seval]
    rw [hH] at q3
    have hE := Kept.endL hn q3
    rw [hL2'] at hE h'L
    exact ⟨hE, .inl (C.inv _ _ _ q2 (.set (by omega) h'L _))⟩
  · have hyL := (q3.lp _ _ _ _ (by omega)).1 H0L
    have hy2 := hget_of hyL
    refine rangeN_post (li0 := li) (List.getElem?_set_self hy2) (by rw [← hH]; exact q1.old) (by simp) ?_
    refine afterLoop_some Ty.mixed (by kernel_rfl) ?_
    simp (disch := omega) only [go_sem, seval]
    rw [List.set_set]
    rw [hH] at q3
    have hE := Kept.endL hn q3
    rw [hL2'] at hE
    refine ⟨hE, .inr ?_⟩
    have := C.stp _ _ q2 (.set (show b ≤ (h ++ [bx]).length by omega) (List.getElem?_set_self hy2) .dead)
    rwa [List.set_set, hL2'] at this
end Go.Proofs.YtlgamlamolfnlaaGreat

/- Lockout's check of its arguments; the first coalition. No conditions. -/
set_option linter.unusedSimpArgs false
set_option linter.unusedVariables false
namespace Go.Proofs.YtlgamlamolfnlaaGreat
open Go Go.Proofs Go.Abs

set_option maxRecDepth 100000 in
theorem check26_calls (Γ : Nat → Option (List AV)) (g : Gt) (most : Int) (h : AH) (hs : Sh g) :
    ACalls Tryz.prog Γ 28 [encG g, .int .i64 most] h fun v h' => h' = h ∧ v = .tuple [.sl (encII (if errL g most = 0 then setsF g else [])) .free, .int .i64 (errL g most)] := by
  have c0 := fun h => psets_calls Γ g h hs
  have hE : ∃ l e, smallR g false = (l, e) ∧ (e = 0 → l = setsF g) := by
    refine ⟨(smallR g false).1, (smallR g false).2, rfl, fun he => ?_⟩
    have : errL g 0 = 0 := by rw [errL, if_pos he, if_neg (by omega)]
    rw [(errL_ok this).r]
  obtain ⟨l, e, hE, hse⟩ := hE
  have hr : errL g most = if e = 0 then (if most < 0 ∨ 64 < most then 1 else 0) else e := by rw [errL, hE]
  rw [hE, encS] at c0
  rw [hr]
  cases g with | mk p n gl =>
  obtain ⟨g, hg⟩ : ∃ g, g = Gt.mk p n gl := ⟨_, rfl⟩
  have eG : encG g = .agg [.int .i64 p, .int .i64 n, .sl (gl.map encG) .free] := by rw [hg, encG_mk]
  rw [← hg] at c0 hse ⊢
  rw [eG] at c0 ⊢
  refine ACalls.dropL ?_
  refine acalls_code (rs := [.tmp 4, .tmp 5]) Tryz.func28 rfl rfl rfl rfl Ty.mixed (by kernel_rfl) ?_
  simp (disch := omega) only [go_sem, seval]
  refine ACalls.det (c0 _) ?_
  simp (disch := omega) only [go_sem, seval]
  refine aIf.intro (fun he => ?_) (fun he => ?_) <;> simp (disch := omega) only [go_sem, seval]
  rotate_left
  · rw [if_neg he, if_neg he]; rfl
  rw [if_pos he, hse he]
  refine aIf.intro (fun hm => ?_) (fun hm => ?_) <;> simp (disch := omega) only [go_sem, seval]
  · rw [if_neg (by rw [if_pos (by omega)]; decide), if_pos (by omega)]; rfl
  refine aIf.intro (fun hm2 => ?_) (fun hm2 => ?_) <;> simp (disch := omega) only [go_sem, seval]
  · rw [if_neg (by rw [if_pos (by omega)]; decide), if_pos (by omega)]; rfl
  · rw [if_pos (by rw [if_neg (by omega)]), if_neg (by omega)]
theorem find_up {l : List Int} {i m : Nat} {p : List Int → Bool} {don r : List (List Int)} {x : List Int} (h1 : ∀ s ∈ allUp l i, p s = false) (h2 : chooseF l i = don ++ x :: r) (h3 : ∀ y ∈ don, p y = false) (h4 : p x = true) (hm : i < m) : (allUp l m).find? p = some x := by
  obtain ⟨d, rfl⟩ : ∃ d, m = i + 1 + d := ⟨m - i - 1, by omega⟩
  rw [allUp, List.range_add, List.flatMap_append, List.range_succ, List.flatMap_append, List.flatMap_cons, List.flatMap_nil, List.append_nil, h2, List.append_assoc, List.append_assoc, List.find?_append, List.find?_append]
  rw [List.find?_eq_none.2 (fun s hs => by rw [h1 s hs]; simp), List.find?_eq_none.2 (fun s hs => by rw [h3 s hs]; simp)]
  simp [h4]
theorem up_next {l : List Int} {i : Nat} {p : List Int → Bool} (h1 : ∀ s ∈ allUp l i, p s = false) (h2 : ∀ s ∈ chooseF l i, p s = false) : ∀ s ∈ allUp l (i + 1), p s = false := fun s hs => by
  rw [allUp, List.range_succ, List.flatMap_append, List.mem_append] at hs
  rcases hs with hs | hs
  · exact h1 s hs
  · simp only [List.flatMap_cons, List.flatMap_nil, List.append_nil] at hs; exact h2 s hs
end Go.Proofs.YtlgamlamolfnlaaGreat
