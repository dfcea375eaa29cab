/- Texts joined: MinR, MinS. No conditions. -/
import Derived.Test.YtelehpccfaedjaaGreatMrO
/- The reference's small functions on lists of sets. No conditions. -/
set_option linter.unusedSimpArgs false
set_option linter.unusedVariables false
namespace Go.Proofs.YtelehpccfaedjaaGreat
open Go Go.Proofs Go.Abs

def sameF (a b : List (List Int)) : Bool := decide (a = b)
def fewF (l : List (List Int)) : Bool := l.all (fun s => decide (s.length ≤ 12)) && decide (l.length ≤ 40)
set_option maxRecDepth 100000 in
theorem rblocks_calls (Γ : Nat → Option (List AV)) (g : Gt) (s : List Int) (h : AH) (hs : Sh g) (hb : allLeaves g ≤ 1000) (hl : s.length ≤ 1000000) :
    ACalls Tryz.prog Γ 69 [encG g, .sl (encI s) .free] h fun v h' => h' = h ∧ v = .bool (blkP g s) := by
  cases g with | mk p n l =>
  have hp := pplF_len hb
  have c1 := fun h => ppl_calls Γ (.mk p n l) h hs hb
  have c2 := fun h => without_calls Γ (pplF (.mk p n l)) s h (by omega) hl
  have c3 := fun h => permits_calls Γ (.mk p n l) (wtF (pplF (.mk p n l)) s) h hs (by have := wtF_len (pplF (.mk p n l)) s; omega)
  simp only [encG_mk] at c1 c3 ⊢
  refine ACalls.drop ?_
  refine acalls_code (rs := [.tmp 4]) Tryz.func69 rfl rfl rfl rfl Ty.mixed (by kernel_rfl) ?_
  simp (disch := omega) only [go_sem, seval]
  refine aCallF.intro (fun _ => c1 _) ?_
  simp (disch := omega) only [go_sem, seval]
  refine aCallF.intro (fun _ => c2 _) ?_
  simp (disch := omega) only [go_sem, seval]
  refine aCallF.intro (fun _ => c3 _) ?_
  simp (disch := omega) only [go_sem, seval]
  rfl
end Go.Proofs.YtelehpccfaedjaaGreat

/- The reference's smallest sets, and what it says of lists that agree. No conditions. -/
set_option linter.unusedSimpArgs false
set_option linter.unusedVariables false
namespace Go.Proofs.YtelehpccfaedjaaGreat
open Go Go.Proofs Go.Abs

def fineF (g : Gt) (b : Bool) : List Int → Bool := if b then blkP g else holdP g
def smallR (g : Gt) (b : Bool) : List (List Int) × Int := if errF g = 0 then (if 256 < (minsF (pplF g) (fineF g b)).length then ([], 2) else (minsF (pplF g) (fineF g b), 0)) else ([], errF g)
def encS (r : List (List Int) × Int) : AV := .tuple [.sl (encII r.1) .free, .int .i64 r.2]
theorem allF_le {l : List Int} (h : l.length ≤ 12) : (allF l).length ≤ 60000 := by have := allUp_len l h (l.length + 1); unfold allF; omega
set_option maxRecDepth 100000 in
theorem rsmall_calls (Γ : Nat → Option (List AV)) (g : Gt) (b : Bool) (h : AH) (hs : Sh g) :
    ACalls Tryz.prog Γ 46 [encG g, .bool b] h fun v h' => h' = h ∧ v = encS (smallR g b) := by
  cases g with | mk p n gl =>
  have c0 := fun h => err_calls Γ (.mk p n gl) h hs
  rw [smallR, encS]
  generalize hG : (Gt.mk p n gl) = G at *
  have eG : encG G = .agg [.int .i64 p, .int .i64 n, .sl (gl.map encG) .free] := by rw [← hG, encG_mk]
  refine ACalls.dropL ?_
  rw [eG] at c0 ⊢
  refine acalls_code (rs := [.tmp 4, .tmp 5]) Tryz.func46 rfl rfl rfl rfl Ty.mixed (by kernel_rfl) ?_
  simp (disch := omega) only [go_sem, seval]
  refine ACalls.det (c0 _) ?_
  simp (disch := omega) only [go_sem, seval]
  refine aIf.intro (fun herr => ?_) (fun herr => ?_) <;> simp (disch := omega) only [go_sem, seval]
  rotate_left
  · rw [if_neg herr]
    rfl
  obtain ⟨hck, hlv, hpn⟩ := errF_facts herr
  have c1 := fun h => ppl_calls Γ G h hs (by omega)
  have c2 := fun h => all_calls Γ (pplF G) h hpn
  have hal := allF_le hpn
  rw [eG] at c1
  refine ACalls.det (c1 _) ?_
  simp (disch := omega) only [go_sem, seval]
  refine ACalls.det (c2 _) ?_
  simp (disch := omega) only [go_sem, seval]
  obtain ⟨K, hK⟩ : ∃ K : AH, K = h ++ [.row [.int .i64 p, .int .i64 n, .sl (gl.map encG) .free] 24] := ⟨_, rfl⟩
  have KD : ∀ j : AH, ∃ l, K ++ j = h ++ l := by subst hK; intro j; exact ⟨_, List.append_assoc ..⟩
  have Kg : ∀ j : AH, (K ++ j)[h.length]? = some (.row [.int .i64 p, .int .i64 n, .sl (gl.map encG) .free] 24) := by subst hK; simp
  refine awp_loopL (β := ChT) (allF (pplF G)) [1, 2, 7, 8, 9] (fun don s => [(1, .bool b), (2, .ptr (some (h.length, 0))), (7, .sl (encII (allF (pplF G))) .free), (8, .sl (encII s.out) s.own), (9, .int .i64 don.length)])
    (fun s => K ++ s.j) (fun don rest s => OwnAt K s.j s.out.length s.own ∧ s.out.length ≤ don.length ∧ minsF (pplF G) (fineF G b) = grdF (fineF G b) s.out rest ∧ ∀ o ∈ s.out, o ∈ allF (pplF G)) ⟨[], .full, []⟩ ?_ (by simp [hK]) ⟨trivial, by simp, rfl, by simp⟩ Ty.mixed (by kernel_rfl) ?_ ?_
  · simp (disch := omega) only [go_sem, seval]
    simp [encII]
  · rintro don x r ⟨out, own, j⟩ hd ⟨ho, hol, hx, hoin⟩
    simp only at ho hol hx hoin ⊢
    have hdl : don.length + 1 + r.length ≤ 60000 := by have := congrArg List.length hd; simp at this; omega
    have e1 : (encII (allF (pplF G)))[don.length]? = some (.sl (encI x) .free) := by rw [hd]; exact encII_get don r x
    have hxl : x.length ≤ 12 := by have := allF_len (l := pplF G) (s := x) (by rw [hd]; simp); omega
    have c3 := fun h => rblocks_calls Γ G x h hs (by omega) (by omega)
    have c4 := fun h => permits_calls Γ G x h hs (by omega)
    rw [eG] at c3 c4
    have hlen : (allF (pplF G)).length = don.length + (r.length + 1) := by rw [hd]; simp
    rw [grdF] at hx
    obtain ⟨f0, hf0⟩ : ∃ f0, f0 = fineF G b x := ⟨_, rfl⟩
    rw [← hf0] at hx
    simp (disch := omega) only [go_sem, seval, encII_len]
    rw [hlen]
    refine aIf.pos (by omega) ?_
    simp (disch := omega) only [go_sem, seval, encII_len, e1, Kg]
    refine aBr.intro (fun hb => ?_) (fun hb => ?_)
    focus
      have hfb : blkP G x = f0 := by rw [hf0, hb]; rfl
      rw [hfb] at c3
      simp (disch := omega) only [go_sem, seval, encII_len, e1, Kg]
      refine aCallF.intro (fun _ => c3 _) ?_
      simp (disch := omega) only [go_sem, seval]
      refine aBr.intro (fun hf => ?_) (fun hf => ?_) <;> simp (disch := omega) only [go_sem, seval]
      focus
        refine aBr.intro (fun hb2 => ?_) (fun hb2 => by rw [hb] at hb2; cases hb2)
        simp (disch := omega) only [go_sem, seval]
    rotate_left 2
    focus
      have hfb : permF G x = f0 := by rw [hf0, hb]; rfl
      rw [hfb] at c4
      simp (disch := omega) only [go_sem, seval, encII_len, e1, Kg]
      refine aBr.intro (fun hb2 => by rw [hb] at hb2; cases hb2) (fun hb2 => ?_)
      simp (disch := omega) only [go_sem, seval, encII_len, e1, Kg]
      refine aCallF.intro (fun _ => c4 _) ?_
      simp (disch := omega) only [go_sem, seval]
      have hf : f0 = f0 := rfl
      skip
    all_goals
      refine awp_loopL (β := Bool) out [1, 2, 7, 8, 9, 10, 11] (fun d fb => [(1, .bool b), (2, .ptr (some (h.length, 0))), (7, .sl (encII (allF (pplF G))) .free), (8, .sl (encII out) own), (9, .int .i64 don.length), (10, .bool fb), (11, .int .i64 d.length)])
        (fun _ => K ++ j) (fun _ rest fb => (f0 && out.all fun o => !decide (∀ y ∈ o, y ∈ x)) = (fb && rest.all fun o => !decide (∀ y ∈ o, y ∈ x))) f0 ?_ rfl rfl Ty.mixed (by kernel_rfl) ?_ ?_
      · simp (disch := omega) only [go_sem, seval, hf]
      · rintro d y q fb hq hfb2
        have hdq : d.length + 1 + q.length = out.length := by rw [hq]; simp; omega
        simp (disch := omega) only [go_sem, seval, encII_len]
        cases fb with
        | false =>
          rw [Bool.false_and] at hfb2
          refine aIf.pos (by omega) ?_
          simp (disch := omega) only [go_sem, seval]
          refine AWP.keep [1, 2, 7, 8, 9, 10] (aCode_ok Ty.mixed _ _ _ _ (by kernel_rfl) ?_)
          simp (disch := omega) only [go_sem, seval]
          refine AWP.keep [1, 2, 7, 8, 9] (aCode_ok Ty.mixed _ _ _ _ (by kernel_rfl) ?_)
          simp (disch := omega) only [go_sem, seval]
          refine roundL_next ⟨out, own, j⟩ ⟨ho, by simp; omega, ?_, hoin⟩ ?_ rfl
          · rw [hx, if_neg (by rw [hfb2]; simp)]
          · simp (disch := omega) only [go_sem, seval, List.length_append]
        | true =>
          rw [Bool.true_and, List.all_cons] at hfb2
          refine aIf.pos (by omega) ?_
          have e2 : (encII out)[d.length]? = some (.sl (encI y) .free) := by rw [hq]; exact encII_get d q y
          have hyl : y.length ≤ 12 := by have := allF_len (l := pplF G) (hoin y (by rw [hq]; simp)); omega
          have c5 := fun h => inside_calls Γ y x h (by omega) (by omega)
          generalize hc5 : decide (∀ z ∈ y, z ∈ x) = b5 at c5 hfb2
          simp (disch := omega) only [go_sem, seval, encII_len, e2]
          simp (disch := omega) only [go_sem, seval, e1]
          refine aCallF.intro (fun _ => c5 _) ?_
          simp (disch := omega) only [go_sem, seval]
          refine roundL_next (!b5) hfb2 ?_ rfl
          simp (disch := omega) only [go_sem, seval, List.length_append]
      · intro fb hfb2
        rw [List.all_nil, Bool.and_true] at hfb2
        simp (disch := omega) only [go_sem, seval, encII_len]
        refine AWP.keep [1, 2, 7, 8, 9, 10] (aCode_ok Ty.mixed _ _ _ _ (by kernel_rfl) ?_)
        simp (disch := omega) only [go_sem, seval]
        cases fb with
        | false =>
          simp (disch := omega) only [go_sem, seval]
          refine AWP.keep [1, 2, 7, 8, 9] (aCode_ok Ty.mixed _ _ _ _ (by kernel_rfl) ?_)
          simp (disch := omega) only [go_sem, seval]
          refine roundL_next ⟨out, own, j⟩ ⟨ho, by simp; omega, ?_, hoin⟩ ?_ rfl
          · rw [hx, if_neg (by rw [hfb2]; simp)]
          · simp (disch := omega) only [go_sem, seval, List.length_append]
        | true =>
          simp (disch := omega) only [go_sem, seval, encII_len]
          simp (disch := omega) only [go_sem, seval, e1]
          refine aAp_sl (by rw [encII_len]; exact ho) (rowsOK_II _) (rowsOK_II [x]) (by simp [encII_len]; omega) (by simp [encII_len]; omega) fun j3 own3 ho3 hg => ?_
          simp (disch := omega) only [go_sem, seval]
          refine AWP.keep [1, 2, 7, 8, 9] (aCode_ok Ty.mixed _ _ _ _ (by kernel_rfl) ?_)
          simp (disch := omega) only [go_sem, seval]
          refine roundL_next ⟨out ++ [x], own3, j3⟩ ⟨?_, by simp; omega, ?_, ?_⟩ ?_ rfl
          · simpa [encII_len] using ho3
          · rw [hx, if_pos hfb2]
          · intro o ho4
            rcases List.mem_append.1 ho4 with ho4 | ho4
            · exact hoin o ho4
            · rw [List.mem_singleton] at ho4; subst ho4; rw [hd]; simp
          · simp (disch := omega) only [go_sem, seval, List.length_append, encII_snoc]
  · rintro ⟨out, own, j⟩ ⟨ho, hol, hx, hoin⟩
    simp only at ho hol hx hoin ⊢
    simp (disch := omega) only [go_sem, seval, encII_len]
    refine AWP.keep [8] (aCode_ok Ty.mixed _ _ _ _ (by kernel_rfl) ?_)
    simp (disch := omega) only [go_sem, seval, encII_len]
    rw [grdF] at hx
    have hout : out.length ≤ 60000 := by omega
    rw [if_pos herr, hx]
    refine aIf.intro (fun h2 => ?_) (fun h2 => ?_) <;> simp (disch := omega) only [go_sem, seval]
    · rw [if_pos (by omega)]
      exact ⟨KD _, rfl⟩
    · rw [if_neg (by omega)]
      refine ⟨KD _, ?_⟩
      simp only [loose, looseL, loose_II, rb_II]
set_option maxRecDepth 100000 in
theorem rsets_calls (Γ : Nat → Option (List AV)) (g : Gt) (h : AH) (hs : Sh g) :
    ACalls Tryz.prog Γ 30 [encG g] h fun v h' => h' = h ∧ v = encS (smallR g false) := by
  cases g with | mk p n l =>
  have c0 := fun h => rsmall_calls Γ (.mk p n l) false h hs
  rw [encS] at c0 ⊢
  simp only [encG_mk] at c0 ⊢
  refine ACalls.drop ?_
  refine acalls_code (rs := [.tmp 2, .tmp 3]) Tryz.func30 rfl rfl rfl rfl Ty.mixed (by kernel_rfl) ?_
  simp (disch := omega) only [go_sem, seval]
  refine ACalls.det (c0 _) ?_
  simp (disch := omega) only [go_sem, seval, rb_II]
def encA (r : Bool × Int) : AV := .tuple [.bool r.1, .int .i64 r.2]
end Go.Proofs.YtelehpccfaedjaaGreat
