/- Texts joined: MinG. No conditions. -/
import Derived.Test.YtnioapinljedmaaGreatMrP
import Derived.Test.YtnioapinljedmaaGreatMrQ
/- The program's Sets and Blocks. No conditions. -/
set_option linter.unusedSimpArgs false
set_option linter.unusedVariables false
namespace Go.Proofs.YtnioapinljedmaaGreat
open Go Go.Proofs Go.Abs

set_option maxRecDepth 100000 in
theorem psets_calls (Γ : Nat → Option (List AV)) (g : Gt) (h : AH) (hs : Sh g) :
    ACalls Tryz.prog Γ 7 [encG g] h fun v h' => h' = h ∧ v = encS (smallR g false) := by
  cases g with | mk p n l =>
  have c0 := fun h => ask_calls Γ (.mk p n l) h hs
  rw [encS, smallR]
  generalize hG : (Gt.mk p n l) = G at *
  have eG : encG G = .agg [.int .i64 p, .int .i64 n, .sl (l.map encG) .free] := by rw [← hG, encG_mk]
  rw [eG] at c0 ⊢
  rw [askV] at c0
  refine ACalls.dropL ?_
  refine acalls_code (rs := [.tmp 2, .tmp 3]) Tryz.func7 rfl rfl rfl rfl Ty.mixed (by kernel_rfl) ?_
  simp (disch := omega) only [go_sem, seval]
  by_cases he : errF G = 0
  · rw [if_pos he] at c0 ⊢
    obtain ⟨hck, hlv, hpn⟩ := errF_facts he
    have c1 := fun h => all_calls24 Γ G (holdP G) _ _ _ h hck hpn (hold_mono hck) (fine_ask hpn)
    rw [qV] at c0 c1
    refine ACalls.det (c0 _) ?_
    simp (disch := omega) only [go_sem, seval]
    refine ACalls.det (c1 _) ?_
    simp (disch := omega) only [go_sem, seval]
    rw [show fineF G false = holdP G from rfl]
    split <;> rfl
  · rw [if_neg he] at c0 ⊢
    rw [q0V] at c0
    refine ACalls.det (c0 _) ?_
    simp (disch := omega) only [go_sem, seval]
    refine aIf.neg he ?_
    simp (disch := omega) only [go_sem, seval]
    rfl
set_option maxRecDepth 100000 in
theorem pblks_calls (Γ : Nat → Option (List AV)) (g : Gt) (h : AH) (hs : Sh g) :
    ACalls Tryz.prog Γ 8 [encG g] h fun v h' => h' = h ∧ v = encS (smallR g true) := by
  cases g with | mk p n l =>
  have c0 := fun h => ask_calls Γ (.mk p n l) h hs
  rw [encS, smallR]
  generalize hG : (Gt.mk p n l) = G at *
  have eG : encG G = .agg [.int .i64 p, .int .i64 n, .sl (l.map encG) .free] := by rw [← hG, encG_mk]
  rw [eG] at c0 ⊢
  rw [askV] at c0
  refine ACalls.dropL ?_
  refine acalls_code (rs := [.tmp 2, .tmp 3]) Tryz.func8 rfl rfl rfl rfl Ty.mixed (by kernel_rfl) ?_
  simp (disch := omega) only [go_sem, seval]
  by_cases he : errF G = 0
  · rw [if_pos he] at c0 ⊢
    obtain ⟨hck, hlv, hpn⟩ := errF_facts he
    have c1 := fun h => all_calls24 Γ G (blkP G) _ _ _ h hck hpn (blk_mono hck) (fine_blk hck hpn)
    rw [qV] at c0 c1
    refine ACalls.det (c0 _) ?_
    simp (disch := omega) only [go_sem, seval]
    refine ACalls.det (c1 _) ?_
    simp (disch := omega) only [go_sem, seval]
    rw [show fineF G true = blkP G from rfl]
    split <;> rfl
  · rw [if_neg he] at c0 ⊢
    rw [q0V] at c0
    refine ACalls.det (c0 _) ?_
    simp (disch := omega) only [go_sem, seval]
    refine aIf.neg he ?_
    simp (disch := omega) only [go_sem, seval]
    rfl
end Go.Proofs.YtnioapinljedmaaGreat
