/- Texts joined: UnA, UnB, UnC. No conditions. -/
import Derived.Test.YtjdhgaflenhljaaGreatDoorMrEK
/- Versions, their checks. No conditions. -/
set_option linter.unusedSimpArgs false
set_option linter.unusedVariables false
namespace Go.Proofs.YtjdhgaflenhljaaGreatDoor
open Go Go.Proofs Go.Abs

structure Vs where
  no : Int
  tm : Int
  kn : Int
  p : Pol
def encV (x : Vs) : AV := .agg ([.int .i64 x.no, .int .i64 x.tm, .int .i64 x.kn] ++ polC x.p)
theorem encV_eq (x : Vs) : encV x = .agg [.int .i64 x.no, .int .i64 x.tm, .int .i64 x.kn, .str ⟨⟨x.p.name⟩⟩, .sl (encT x.p.kinds) .free, .sl (encT x.p.offices) .free, .sl (x.p.rules.map encRl) .free, .int .i64 x.p.change.k, .int .i64 x.p.change.n, .int .i64 x.p.change.no, .str ⟨⟨x.p.change.name⟩⟩, .sl (x.p.change.l.map encX) .free, .int .i64 x.p.mode] := by
  simp [encV, polC, encX_chC, chC, AV.cells]
def rowV (x : Vs) : AObj := .row [.int .i64 x.no, .int .i64 x.tm, .int .i64 x.kn, .str ⟨⟨x.p.name⟩⟩, .sl (encT x.p.kinds) .free, .sl (encT x.p.offices) .free, .sl (x.p.rules.map encRl) .free, .int .i64 x.p.change.k, .int .i64 x.p.change.n, .int .i64 x.p.change.no, .str ⟨⟨x.p.change.name⟩⟩, .sl (x.p.change.l.map encX) .free, .int .i64 x.p.mode] 39
theorem encV_len (x : Vs) : (encV x).cells.length = 13 := by rw [encV_eq]; rfl
theorem loose_V (x : Vs) : loose (encV x) = encV x := by
  rw [encV_eq]; simp [loose, looseL, loose_T, loose_Rs, loose_Xs]
theorem loose_Vs (l : List Vs) : looseL (l.map encV) = l.map encV := looseL_maps _ loose_V l
theorem rb_V (k : Nat) (x : Vs) : RB k (encV x) := by
  rw [encV_eq]
  exact .agg' (RBs.cons (.int _ _) (RBs.cons (.int _ _) (RBs.cons (.int _ _) (RBs.cons (.str _) (RBs.cons (of_eq_true (rb_T _ _)) (RBs.cons (of_eq_true (rb_T _ _)) (RBs.cons (of_eq_true (rb_Rs _ _)) (RBs.cons (.int _ _) (RBs.cons (.int _ _) (RBs.cons (.int _ _) (RBs.cons (.str _) (RBs.cons (of_eq_true (rb_Xs _ _)) (RBs.cons (.int _ _) (RBs.nil _))))))))))))))
theorem rb_Vs (k : Nat) (l : List Vs) : RB k (.sl (l.map encV) .free) = True := eq_true (.sl' fun r hr => by
  obtain ⟨x, _, rfl⟩ := List.mem_map.1 hr; exact rb_V k x)
theorem rowsOK_V (l : List Vs) : RowsOK 13 (l.map encV) := fun r hr => by
  obtain ⟨x, _, rfl⟩ := List.mem_map.1 hr
  refine ⟨encV_len x, fun c hc => ?_⟩
  rw [encV_eq] at hc
  simp only [AV.cells, List.mem_cons, List.not_mem_nil, or_false] at hc
  rcases hc with rfl | rfl | rfl | rfl | rfl | rfl | rfl | rfl | rfl | rfl | rfl | rfl | rfl <;> rfl
attribute [go_sem] rb_Vs loose_Vs
def vOk (last : Int) (x : Vs) : Bool := decide (last + 1 ≤ x.no ∧ x.no ≤ 1048576) && (decide (0 ≤ x.tm ∧ x.tm ≤ 1099511627775) && (decide (0 ≤ x.kn ∧ x.kn ≤ 1099511627775) && decide (checkF x.p = 0)))
def vsOk : Int → List Vs → Bool
  | _, [] => true
  | last, x :: r => vOk last x && vsOk x.no r
def chkAll (l : List Vs) : Int := if 256 < l.length then 2 else if vsOk (-1) l then 0 else 200
/-- Policies small enough for the walk. -/
structure SmP (p : Pol) : Prop where
  sh : ShP p
  sz : ∀ y ∈ exprs p, sizeX y ≤ 1000
  rl : p.rules.length ≤ 1000000
structure VsC (l : List Vs) : Prop where
  n : l.length ≤ 9223372036854775807
  v : l.length ≤ 256 → ∀ x ∈ l, SmP x.p
theorem isTime_calls (Γ : Nat → Option (List AV)) (n : Int) (h : AH) :
    ACalls Tryz.prog Γ 14 [.int .i64 n] h fun v h' => h' = h ∧ v = .bool (decide (0 ≤ n ∧ n < 1099511627776)) := by
  refine ACalls.drop ?_
  refine acalls_code (rs := [.tmp 2]) Tryz.func14 rfl rfl rfl rfl Ty.mixed (by kernel_rfl) ?_
  simp (disch := omega) only [go_sem, seval]
  refine aIf.intro (fun h1 => ?_) (fun h1 => ?_) <;> simp (disch := omega) only [go_sem, seval]
  · simp [h1]
  · simp [h1]
set_option maxHeartbeats 1600000 in
set_option maxRecDepth 100000 in
theorem checkAll_calls (Γ : Nat → Option (List AV)) (hΓ : Γ 0 = some kindsC) (l : List Vs) (h : AH) (C : VsC l) :
    ACalls Tryz.prog Γ 13 [.sl (l.map encV) .free] h fun v h' => h' = h ∧ v = .int .i64 (chkAll l) := by
  have hn := C.n
  refine ACalls.drop ?_
  refine acalls_code (rs := [.tmp 2]) Tryz.func13 rfl rfl rfl rfl Ty.mixed (by kernel_rfl) ?_
  simp (disch := omega) only [go_sem, seval, List.length_map]
  refine aIf.intro (fun h1 => ?_) (fun h1 => ?_) <;> simp (disch := omega) only [go_sem, seval, List.length_map]
  · rw [chkAll, if_pos (by omega)]
  have hd : chkAll l = if vsOk (-1) l then 0 else 200 := by rw [chkAll, if_neg (by omega)]
  have hsm := C.v (by omega)
  refine awp_loopL (β := Int × AH) l [3, 9, 10, 11] (fun don b => [(3, .int .i64 b.1), (9, .sl (l.map encV) .free), (10, .int .i64 l.length), (11, .int .i64 don.length)]) (fun b => h ++ b.2) (fun don rest b => vsOk (-1) l = vsOk b.1 rest ∧ -1 ≤ b.1 ∧ b.1 ≤ 1048576) (-1, []) ?_ (by simp) ⟨rfl, by decide, by decide⟩ Ty.mixed (by kernel_rfl) ?_ ?_
  · simp (disch := omega) only [go_sem, seval, List.length_nil]
  · rintro don x r ⟨last, j⟩ hdn ⟨hv, hb1, hb2⟩
    simp only at hv hb1 hb2 ⊢
    have hlen : l.length = don.length + 1 + r.length := by rw [hdn]; simp; omega
    have e1 : (l.map encV)[don.length]? = some (encV x) := by rw [hdn]; exact rowMid ..
    have hx := hsm x (by rw [hdn]; simp)
    have c1 := fun h => pcheck_calls Γ hΓ x.p h hx.sh hx.sz hx.rl
    rw [encPol_eq] at c1
    rw [encV_eq] at e1
    rw [vsOk, vOk] at hv
    simp (disch := omega) only [go_sem, seval, List.length_map]
    refine aIf.pos (by omega) ?_
    simp (disch := omega) only [go_sem, seval, e1, List.length_map]
    refine ACalls.det (within_calls Γ _ _ _ _) ?_
    simp (disch := omega) only [go_sem, seval]
    refine aIf.intro (fun h2 => ?_) (fun h2 => ?_) <;> simp (disch := omega) only [go_sem, seval]
    rotate_left
    · rw [hd, hv, decide_eq_false h2]; rfl
    refine ACalls.det (within_calls Γ _ _ _ _) ?_
    simp (disch := omega) only [go_sem, seval]
    refine aIf.intro (fun h3 => ?_) (fun h3 => ?_) <;> simp (disch := omega) only [go_sem, seval]
    rotate_left
    · rw [hd, hv, decide_eq_true h2, decide_eq_false h3]; rfl
    refine ACalls.det (within_calls Γ _ _ _ _) ?_
    simp (disch := omega) only [go_sem, seval]
    refine aIf.intro (fun h4 => ?_) (fun h4 => ?_) <;> simp (disch := omega) only [go_sem, seval]
    rotate_left
    · rw [hd, hv, decide_eq_true h2, decide_eq_true h3, decide_eq_false h4]; rfl
    refine ACalls.det (c1 _) ?_
    simp (disch := omega) only [go_sem, seval]
    refine aIf.intro (fun h5 => ?_) (fun h5 => ?_) <;> simp (disch := omega) only [go_sem, seval]
    rotate_left
    · rw [hd, hv, decide_eq_true h2, decide_eq_true h3, decide_eq_true h4, decide_eq_false h5]; rfl
    refine roundL_next (x.no, j ++ [rowV x]) ⟨?_, by omega, by omega⟩ ?_ ?_
    · rw [hv, decide_eq_true h2, decide_eq_true h3, decide_eq_true h4, decide_eq_true h5]; rfl
    · simp (disch := omega) only [go_sem, seval, List.length_append]
    · simp [rowV]
  · rintro ⟨last, j⟩ ⟨hv, hb1, hb2⟩
    simp only at hv hb1 hb2 ⊢
    simp (disch := omega) only [go_sem, seval, List.length_map]
    refine AWP.keep [] (aCode_ok Ty.mixed _ _ _ _ (by kernel_rfl) ?_)
    simp (disch := omega) only [go_sem, seval]
    rw [hd, hv]; rfl
end Go.Proofs.YtjdhgaflenhljaaGreatDoor

/- Few versions; Standing. No conditions. -/
set_option linter.unusedSimpArgs false
set_option linter.unusedVariables false
namespace Go.Proofs.YtjdhgaflenhljaaGreatDoor
open Go Go.Proofs Go.Abs

def fewN (l : List Tx) (most : Int) : Bool := decide (¬ (10 < (l.length : Int) ∧ (l.length : Int) ≤ most) ∧ l.length ≤ 60) && l.all fun s => decide (s.length ≤ 60)
def fewE (x : Ex) : Bool := decide (sizeX x ≤ 60 ∨ 256 < sizeX x ∧ sizeX x ≤ 300)
def few20 (p : Pol) : Bool := fewN p.offices 32 && (fewN p.kinds 16 && (decide (p.rules.length ≤ 20) && (fewE p.change && p.rules.all fun r => fewE r.x)))
def fewVF (l : List Vs) : Bool := decide (¬ (6 < l.length ∧ l.length ≤ 256) ∧ l.length ≤ 270) && (l.take 10).all fun x => few20 x.p
set_option maxHeartbeats 1600000 in
set_option maxRecDepth 100000 in
theorem fewN_calls (Γ : Nat → Option (List AV)) (l : List Tx) (most : Int) (h : AH) (hl : l.length ≤ 9223372036854775807) (hl2 : ∀ s ∈ l, s.length ≤ 9223372036854775807) :
    ACalls Tryz.prog Γ 26 [.sl (encT l) .free, .int .i64 most] h fun v h' => h' = h ∧ v = .bool (fewN l most) := by
  refine ACalls.drop ?_
  refine acalls_code (rs := [.tmp 4]) Tryz.func26 rfl rfl rfl rfl Ty.mixed (by kernel_rfl) ?_
  have hd : fewN l most = (decide (¬ (10 < (l.length : Int) ∧ (l.length : Int) ≤ most) ∧ l.length ≤ 60) && l.all fun s => decide (s.length ≤ 60)) := rfl
  simp (disch := omega) only [go_sem, seval, encT_len]
  by_cases h0 : ¬ (10 < (l.length : Int) ∧ (l.length : Int) ≤ most) ∧ l.length ≤ 60
  · rw [decide_eq_true h0, Bool.true_and] at hd
    have body : ∀ σ0 : Nat, True := fun _ => trivial
    refine aIf.intro (fun h1 => ?_) (fun h1 => ?_) <;> simp (disch := omega) only [go_sem, seval, encT_len]
    · refine aIf.neg (by omega) ?_
      simp (disch := omega) only [go_sem, seval, encT_len]
      refine aIf.neg (by omega) ?_
      simp (disch := omega) only [go_sem, seval]
      refine awp_loopL (β := Unit) l [0, 5] (fun don _ => [(0, .sl (encT l) .free), (5, .int .i64 don.length)]) (fun _ => h) (fun don _ _ => don.all (fun s => decide (s.length ≤ 60)) = true) () ?_ rfl rfl Ty.mixed (by kernel_rfl) ?_ ?_
      · simp (disch := omega) only [go_sem, seval, List.length_nil]
      · rintro don x r _ hdn hI
        have hlen : l.length = don.length + 1 + r.length := by rw [hdn]; simp; omega
        have e1 : (encT l)[don.length]? = some (.str ⟨⟨x⟩⟩) := by rw [hdn]; exact rowMid ..
        have hx := hl2 x (by rw [hdn]; simp)
        simp (disch := omega) only [go_sem, seval, encT_len]
        refine aIf.pos (by omega) ?_
        simp (disch := omega) only [go_sem, seval, e1, encT_len, str_size]
        refine aIf.intro (fun h5 => ?_) (fun h5 => ?_) <;> simp (disch := omega) only [go_sem, seval]
        · rw [hd, hdn, List.all_append, List.all_cons, decide_eq_false (by omega)]; simp
        · refine roundL_next () ?_ ?_ rfl
          · rw [List.all_append, hI, List.all_cons, decide_eq_true (by omega)]; rfl
          · simp (disch := omega) only [go_sem, seval, List.length_append]
      · rintro _ hI
        simp (disch := omega) only [go_sem, seval, encT_len]
        refine AWP.keep [] (aCode_ok Ty.mixed _ _ _ _ (by kernel_rfl) ?_)
        simp (disch := omega) only [go_sem, seval]
        rw [hd, hI]
    · refine aIf.neg (by omega) ?_
      simp (disch := omega) only [go_sem, seval]
      refine awp_loopL (β := Unit) l [0, 5] (fun don _ => [(0, .sl (encT l) .free), (5, .int .i64 don.length)]) (fun _ => h) (fun don _ _ => don.all (fun s => decide (s.length ≤ 60)) = true) () ?_ rfl rfl Ty.mixed (by kernel_rfl) ?_ ?_
      · simp (disch := omega) only [go_sem, seval, List.length_nil]
      · rintro don x r _ hdn hI
        have hlen : l.length = don.length + 1 + r.length := by rw [hdn]; simp; omega
        have e1 : (encT l)[don.length]? = some (.str ⟨⟨x⟩⟩) := by rw [hdn]; exact rowMid ..
        have hx := hl2 x (by rw [hdn]; simp)
        simp (disch := omega) only [go_sem, seval, encT_len]
        refine aIf.pos (by omega) ?_
        simp (disch := omega) only [go_sem, seval, e1, encT_len, str_size]
        refine aIf.intro (fun h5 => ?_) (fun h5 => ?_) <;> simp (disch := omega) only [go_sem, seval]
        · rw [hd, hdn, List.all_append, List.all_cons, decide_eq_false (by omega)]; simp
        · refine roundL_next () ?_ ?_ rfl
          · rw [List.all_append, hI, List.all_cons, decide_eq_true (by omega)]; rfl
          · simp (disch := omega) only [go_sem, seval, List.length_append]
      · rintro _ hI
        simp (disch := omega) only [go_sem, seval, encT_len]
        refine AWP.keep [] (aCode_ok Ty.mixed _ _ _ _ (by kernel_rfl) ?_)
        simp (disch := omega) only [go_sem, seval]
        rw [hd, hI]
  · rw [decide_eq_false h0, Bool.false_and] at hd
    refine aIf.intro (fun h1 => ?_) (fun h1 => ?_) <;> simp (disch := omega) only [go_sem, seval, encT_len]
    · refine aIf.intro (fun h2 => ?_) (fun h2 => ?_) <;> simp (disch := omega) only [go_sem, seval, encT_len]
      · rw [hd]
      · refine aIf.pos (by omega) ?_
        simp (disch := omega) only [go_sem, seval]
        rw [hd]
    · refine aIf.pos (by omega) ?_
      simp (disch := omega) only [go_sem, seval]
      rw [hd]
theorem fewE_calls (Γ : Nat → Option (List AV)) (x : Ex) (h : AH) (hx : ShX x) :
    ACalls Tryz.prog Γ 27 [encX x] h fun v h' => h' = h ∧ v = .bool (fewE x) := by
  have c := fun h => rparts_calls Γ x 400 h hx (by omega)
  have hd : fewE x = decide (sizeX x ≤ 60 ∨ 256 < sizeX x ∧ sizeX x ≤ 300) := rfl
  refine ACalls.drop ?_
  rw [encX_eq] at *
  refine acalls_code (rs := [.tmp 2]) Tryz.func27 rfl rfl rfl rfl Ty.mixed (by kernel_rfl) ?_
  simp (disch := omega) only [go_sem, seval]
  refine ACalls.det (c _) ?_
  simp (disch := omega) only [go_sem, seval]
  refine aIf.intro (fun h1 => ?_) (fun h1 => ?_) <;> simp (disch := omega) only [go_sem, seval]
  · rw [hd, decide_eq_true (by omega)]
  refine aIf.intro (fun h2 => ?_) (fun h2 => ?_) <;> simp (disch := omega) only [go_sem, seval]
  · rw [hd]; congr 1; apply decide_eq_decide.2; omega
  · rw [hd, decide_eq_false (by omega)]
end Go.Proofs.YtjdhgaflenhljaaGreatDoor

/- Few versions; Standing. No conditions. -/
set_option linter.unusedSimpArgs false
set_option linter.unusedVariables false
namespace Go.Proofs.YtjdhgaflenhljaaGreatDoor
open Go Go.Proofs Go.Abs

set_option maxHeartbeats 1600000 in
set_option maxRecDepth 100000 in
theorem few20_calls (Γ : Nat → Option (List AV)) (p : Pol) (h : AH) (hp : ShP p) :
    ACalls Tryz.prog Γ 12 [encPol p] h fun v h' => h' = h ∧ v = .bool (few20 p) := by
  have c1 := fun h => fewN_calls Γ p.offices 32 h hp.offices hp.officesT
  have c2 := fun h => fewN_calls Γ p.kinds 16 h hp.kinds hp.kindsT
  have c3 := fun h => fewE_calls Γ p.change h hp.change
  have hr := hp.rules
  have hd : few20 p = (fewN p.offices 32 && (fewN p.kinds 16 && (decide (p.rules.length ≤ 20) && (fewE p.change && p.rules.all fun r => fewE r.x)))) := rfl
  refine ACalls.drop ?_
  rw [encPol_eq]
  rw [encX_eq] at c3
  refine acalls_code (rs := [.tmp 2]) Tryz.func12 rfl rfl rfl rfl Ty.mixed (by kernel_rfl) ?_
  simp (disch := omega) only [go_sem, seval]
  refine ACalls.det (c1 _) ?_
  cases h1 : fewN p.offices 32 <;> rw [h1] at hd <;> simp (disch := omega) only [go_sem, seval]
  · rw [hd]; rfl
  refine ACalls.det (c2 _) ?_
  cases h2 : fewN p.kinds 16 <;> rw [h2] at hd <;> simp (disch := omega) only [go_sem, seval, List.length_map]
  · rw [hd]; rfl
  refine aIf.intro (fun h3 => ?_) (fun h3 => ?_) <;> simp (disch := omega) only [go_sem, seval]
  · rw [hd, decide_eq_false (by omega)]; rfl
  rw [decide_eq_true (by omega)] at hd
  refine ACalls.det (c3 _) ?_
  cases h4 : fewE p.change <;> rw [h4] at hd <;> simp (disch := omega) only [go_sem, seval]
  · rw [hd]; rfl
  simp only [Bool.true_and] at hd
  refine awp_loopL (β := Unit) p.rules [1, 3] (fun don _ => [(1, .ptr (some (h.length, 0))), (3, .int .i64 don.length)]) (fun _ => h ++ [.row [.str ⟨⟨p.name⟩⟩, .sl (encT p.kinds) .free, .sl (encT p.offices) .free, .sl (p.rules.map encRl) .free, .int .i64 p.change.k, .int .i64 p.change.n, .int .i64 p.change.no, .str ⟨⟨p.change.name⟩⟩, .sl (p.change.l.map encX) .free, .int .i64 p.mode] 37]) (fun don _ _ => don.all (fun r => fewE r.x) = true) () ?_ rfl rfl Ty.mixed (by kernel_rfl) ?_ ?_
  · simp (disch := omega) only [go_sem, seval, List.length_nil]
  · rintro don x r _ hdn hI
    have hlen : p.rules.length = don.length + 1 + r.length := by rw [hdn]; simp; omega
    have e1 : (p.rules.map encRl)[don.length]? = some (encRl x) := by rw [hdn]; exact rowMid ..
    have c4 := fun h => fewE_calls Γ x.x h (hp.rulesX x (by rw [hdn]; simp))
    rw [encX_eq] at c4
    rw [encRl_eq] at e1
    simp (disch := omega) only [go_sem, seval, List.length_map]
    refine aIf.pos (by omega) ?_
    simp (disch := omega) only [go_sem, seval, e1, List.length_map]
    refine ACalls.det (c4 _) ?_
    cases h5 : fewE x.x <;> simp (disch := omega) only [go_sem, seval]
    · rw [hd, hdn, List.all_append, List.all_cons, h5]; simp
    · refine roundL_next () ?_ ?_ rfl
      · rw [List.all_append, hI, List.all_cons, h5]; rfl
      · simp (disch := omega) only [go_sem, seval, List.length_append]
  · rintro _ hI
    simp (disch := omega) only [go_sem, seval, List.length_map]
    refine AWP.keep [] (aCode_ok Ty.mixed _ _ _ _ (by kernel_rfl) ?_)
    simp (disch := omega) only [go_sem, seval]
    rw [hd, hI]
set_option maxHeartbeats 1600000 in
set_option maxRecDepth 100000 in
theorem fewV_calls (Γ : Nat → Option (List AV)) (l : List Vs) (h : AH) (hl : l.length ≤ 9223372036854775807) (hp : ∀ x ∈ l, ShP x.p) :
    ACalls Tryz.prog Γ 5 [.sl (l.map encV) .free] h fun v h' => h' = h ∧ v = .bool (fewVF l) := by
  have hd : fewVF l = (decide (¬ (6 < l.length ∧ l.length ≤ 256) ∧ l.length ≤ 270) && (l.take 10).all fun x => few20 x.p) := rfl
  refine ACalls.drop ?_
  refine acalls_code (rs := [.tmp 2]) Tryz.func5 rfl rfl rfl rfl Ty.mixed (by kernel_rfl) ?_
  simp (disch := omega) only [go_sem, seval, List.length_map]
  by_cases h0 : ¬ (6 < l.length ∧ l.length ≤ 256) ∧ l.length ≤ 270
  · rw [decide_eq_true h0, Bool.true_and] at hd
    refine aIf.intro (fun h1 => ?_) (fun h1 => ?_) <;> simp (disch := omega) only [go_sem, seval, List.length_map]
    · refine aIf.neg (by omega) ?_
      simp (disch := omega) only [go_sem, seval, List.length_map]
      refine aIf.neg (by omega) ?_
      simp (disch := omega) only [go_sem, seval]
      refine awp_loopL (β := Unit) (l.take 10) [0, 3] (fun don _ => [(0, .sl (l.map encV) .free), (3, .int .i64 don.length)]) (fun _ => h) (fun don _ _ => don.all (fun x => few20 x.p) = true) () ?_ rfl rfl Ty.mixed (by kernel_rfl) ?_ ?_
      · simp (disch := omega) only [go_sem, seval, List.length_nil]
      · rintro don x r _ hdn hI
        have hlen : (l.take 10).length = don.length + 1 + r.length := by rw [hdn]; simp; omega
        rw [List.length_take] at hlen
        have hx : l[don.length]? = some x := by
          have : (l.take 10)[don.length]? = some x := by rw [hdn]; simp
          rwa [List.getElem?_take_of_lt (by omega)] at this
        have e1 : (l.map encV)[don.length]? = some (encV x) := by rw [List.getElem?_map, hx]; rfl
        have c4 := fun h => few20_calls Γ x.p h (hp x (List.mem_of_getElem? hx))
        rw [encPol_eq] at c4
        rw [encV_eq] at e1
        simp (disch := omega) only [go_sem, seval, List.length_map]
        refine aIf.pos (by omega) ?_
        simp (disch := omega) only [go_sem, seval]
        refine aIf.pos (by omega) ?_
        simp (disch := omega) only [go_sem, seval, e1, List.length_map]
        refine ACalls.det (c4 _) ?_
        cases h5 : few20 x.p <;> simp (disch := omega) only [go_sem, seval]
        · rw [hd, hdn, List.all_append, List.all_cons, h5]; simp
        · refine roundL_next () ?_ ?_ rfl
          · rw [List.all_append, hI, List.all_cons, h5]; rfl
          · simp (disch := omega) only [go_sem, seval, List.length_append]
      · rintro _ hI
        have hm : ((l.take 10).length : Int) = l.length ∨ ((l.take 10).length : Int) = 10 := by rw [List.length_take]; omega
        have hm2 : (l.take 10).length ≤ l.length := by rw [List.length_take]; omega
        simp (disch := omega) only [go_sem, seval, List.length_map]
        refine aIf.intro (fun e1 => ?_) (fun e1 => ?_) <;> simp (disch := omega) only [go_sem, seval]
        · refine aIf.neg (by omega) ?_
          simp (disch := omega) only [go_sem, seval]
          refine AWP.keep [] (aCode_ok Ty.mixed _ _ _ _ (by kernel_rfl) ?_)
          simp (disch := omega) only [go_sem, seval]
          rw [hd, hI]
        · refine AWP.keep [] (aCode_ok Ty.mixed _ _ _ _ (by kernel_rfl) ?_)
          simp (disch := omega) only [go_sem, seval]
          rw [hd, hI]
    · refine aIf.neg (by omega) ?_
      simp (disch := omega) only [go_sem, seval]
      refine awp_loopL (β := Unit) (l.take 10) [0, 3] (fun don _ => [(0, .sl (l.map encV) .free), (3, .int .i64 don.length)]) (fun _ => h) (fun don _ _ => don.all (fun x => few20 x.p) = true) () ?_ rfl rfl Ty.mixed (by kernel_rfl) ?_ ?_
      · simp (disch := omega) only [go_sem, seval, List.length_nil]
      · rintro don x r _ hdn hI
        have hlen : (l.take 10).length = don.length + 1 + r.length := by rw [hdn]; simp; omega
        rw [List.length_take] at hlen
        have hx : l[don.length]? = some x := by
          have : (l.take 10)[don.length]? = some x := by rw [hdn]; simp
          rwa [List.getElem?_take_of_lt (by omega)] at this
        have e1 : (l.map encV)[don.length]? = some (encV x) := by rw [List.getElem?_map, hx]; rfl
        have c4 := fun h => few20_calls Γ x.p h (hp x (List.mem_of_getElem? hx))
        rw [encPol_eq] at c4
        rw [encV_eq] at e1
        simp (disch := omega) only [go_sem, seval, List.length_map]
        refine aIf.pos (by omega) ?_
        simp (disch := omega) only [go_sem, seval]
        refine aIf.pos (by omega) ?_
        simp (disch := omega) only [go_sem, seval, e1, List.length_map]
        refine ACalls.det (c4 _) ?_
        cases h5 : few20 x.p <;> simp (disch := omega) only [go_sem, seval]
        · rw [hd, hdn, List.all_append, List.all_cons, h5]; simp
        · refine roundL_next () ?_ ?_ rfl
          · rw [List.all_append, hI, List.all_cons, h5]; rfl
          · simp (disch := omega) only [go_sem, seval, List.length_append]
      · rintro _ hI
        have hm : ((l.take 10).length : Int) = l.length ∨ ((l.take 10).length : Int) = 10 := by rw [List.length_take]; omega
        have hm2 : (l.take 10).length ≤ l.length := by rw [List.length_take]; omega
        simp (disch := omega) only [go_sem, seval, List.length_map]
        refine aIf.intro (fun e1 => ?_) (fun e1 => ?_) <;> simp (disch := omega) only [go_sem, seval]
        · refine aIf.neg (by omega) ?_
          simp (disch := omega) only [go_sem, seval]
          refine AWP.keep [] (aCode_ok Ty.mixed _ _ _ _ (by kernel_rfl) ?_)
          simp (disch := omega) only [go_sem, seval]
          rw [hd, hI]
        · refine AWP.keep [] (aCode_ok Ty.mixed _ _ _ _ (by kernel_rfl) ?_)
          simp (disch := omega) only [go_sem, seval]
          rw [hd, hI]
  · rw [decide_eq_false h0, Bool.false_and] at hd
    refine aIf.intro (fun h1 => ?_) (fun h1 => ?_) <;> simp (disch := omega) only [go_sem, seval, List.length_map]
    · refine aIf.intro (fun h2 => ?_) (fun h2 => ?_) <;> simp (disch := omega) only [go_sem, seval, List.length_map]
      · rw [hd]
      · refine aIf.pos (by omega) ?_
        simp (disch := omega) only [go_sem, seval]
        rw [hd]
    · refine aIf.pos (by omega) ?_
      simp (disch := omega) only [go_sem, seval]
      rw [hd]
def leO (o : Option Vs) (x : Vs) : Bool := match o with
  | none => true
  | some y => decide (y.tm ≤ x.tm)
/-- One step of the search for the version in force. -/
def fstep (t kn : Int) (o : Option Vs) (x : Vs) : Option Vs := if x.tm ≤ t ∧ x.kn ≤ kn ∧ leO o x = true then some x else o
/-- The version in force. -/
def forceV (t kn : Int) (l : List Vs) : Option Vs := l.foldl (fstep t kn) none
def timeF (n : Int) : Bool := decide (0 ≤ n ∧ n ≤ 1099511627775)
end Go.Proofs.YtjdhgaflenhljaaGreatDoor
