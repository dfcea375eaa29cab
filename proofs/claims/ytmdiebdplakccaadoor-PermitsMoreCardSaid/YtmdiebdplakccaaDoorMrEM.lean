/- Texts joined: PerM. No conditions. -/
import Derived.Test.YtmdiebdplakccaaDoorMrEL
import Derived.Test.YtmdiebdplakccaaDoorMrG
/- PermitsNobody, the code. No conditions. -/
set_option linter.unusedSimpArgs false
set_option linter.unusedVariables false
namespace Go.Proofs.YtmdiebdplakccaaDoor
open Go Go.Proofs Go.Abs

theorem fz_ptr {i j o : Nat} {cs : List AV} (h : j ≠ i) : fzV i cs (.ptr (some (j, o))) = .ptr (some (j, o)) := by rw [fzV, if_neg h]
theorem fzL_maps {α : Type} {i : Nat} {cs : List AV} (f : α → AV) (H : ∀ x, fzV i cs (f x) = f x) (l : List α) : fzL i cs (l.map f) = l.map f := by
  rw [fzL_map, List.map_map]; exact List.map_congr_left fun x _ => H x
theorem fz_I (i : Nat) (cs : List AV) (l : List Int) : fzL i cs (encI l) = encI l := fzL_maps _ (fun _ => rfl) l
theorem fz_Hs (i : Nat) (cs : List AV) (l : List Hd) : fzL i cs (l.map encHd) = l.map encHd := fzL_maps _ (fun _ => rfl) l
theorem fz_HH (i : Nat) (cs : List AV) (hs : List (List Hd)) : fzL i cs (encHl hs) = encHl hs := fzL_maps _ (fun l => by show AV.sl (fzL i cs (l.map encHd)) .free = _; rw [fz_Hs]) hs
theorem fz_whole (i N : Nat) (cs : List AV) (h1 : cs.length = N) (h2 : ∀ c ∈ cs, c.isAgg = false) : fzV i cs (.ms i 0 N N 1) = .sl cs .free := by
  have hok : fzOK cs 0 N N 1 = true := by
    simp only [fzOK, Bool.and_eq_true, decide_eq_true_eq, List.all_eq_true, Bool.not_eq_true']
    exact ⟨⟨⟨by omega, by omega⟩, by decide⟩, h2⟩
  rw [fzV, if_pos ⟨rfl, hok⟩, List.drop_zero, rowsOf_one _ _ (by omega), ← h1, List.take_length]
theorem looseL_app (a b : List AV) : looseL (a ++ b) = looseL a ++ looseL b := by
  induction a with
  | nil => simp [looseL]
  | cons x r ih => simp only [List.cons_append, looseL, ih]
def flC (D : List AV) (n : Nat) : List AV := D ++ List.replicate n (.sl [] .full)
set_option maxHeartbeats 4000000 in
set_option maxRecDepth 100000 in
theorem permitsNobody_calls (Γ : Nat → Option (List AV)) (hΓ : Γ 0 = some kindsC) (p : Pol) (kind value : Int) (hs : List (List Hd)) (who : List Int) (h : AH) (hp : ShP p) (H : ShH hs) (hw : who.length ≤ 9223372036854775807) :
    ACalls Tryd.prog Γ 7 [encPol p, .int .i64 kind, .int .i64 value, .sl (encHl hs) .free, .sl (encI who) .free] h fun v h' => h' = h ∧ v = .bool true := by
  have c1 := fun h => right21_calls Γ p kind value hs who h hp H hw
  have hsz : fewF p hs = true → ∀ x ∈ exprs p, sizeX x ≤ 1000 := fun hf x hx => by have := (few_szs hf).1 x hx; omega
  have hrl : fewF p hs = true → p.rules.length ≤ 1000000 := fun hf => by have := (few_szs hf).2.1; omega
  have c2 := fun hs2 w h (hf : fewF p hs = true) (S : Szs hs2 w) => permits_calls Γ hΓ p kind value hs2 w h hp (hsz hf) (hrl hf) S
  have c3 := fun w h (hf : fewF p hs = true) (S : Szs hs w) => changes_calls Γ hΓ p hs w h hp (hsz hf) (hrl hf) S
  refine ACalls.drop ?_
  rw [encPol_eq] at *
  refine acalls_code (rs := [.tmp 10]) Tryd.func7 rfl rfl rfl rfl Ty.mixed (by kernel_rfl) ?_
  simp (disch := omega) only [go_sem, seval]
  refine ACalls.det (sane21_calls Γ hΓ _) ?_
  simp (disch := omega) only [go_sem, seval]
  refine ACalls.det (c1 _) ?_
  cases h1 : rightF p kind value hs who <;> simp (disch := omega) only [go_sem, seval]
  obtain ⟨f1, f2, f3, f4, f5, f6⟩ := rightF_facts h1
  obtain ⟨r, hr, e1, hrm⟩ := rule_at f3 ⟨f4.1, f4.2.1⟩
  have hok := (check_rule f3 hrm).1
  have hokc := (check_change f3).1
  have c4 := fun h => c2 hs [] h f1 (few_S f1 (by simp))
  have c5 := fun h => c3 [] h f1 (few_S f1 (by simp))
  rw [perm_ok f3 ⟨f4.1, f4.2.1⟩ f4.2.2 f5 rfl hr, ful_nobody _ _ hok, encB2] at c4
  rw [change_ok f3 f5 rfl, ful_nobody _ _ hokc, encB2] at c5
  refine ACalls.ofLoose (ACalls.det (c4 _) ?_) (by simp only [looseL, loose, loose_T, loose_Rs, loose_Xs, loose_I, loose_HH]; rfl)
  simp (disch := omega) only [go_sem, seval]
  refine ACalls.ofLoose (ACalls.det (c5 _) ?_) (by simp only [looseL, loose, loose_T, loose_Rs, loose_Xs, loose_I, loose_HH]; rfl)
  simp (disch := omega) only [go_sem, seval, encI_len]
  have hfz := few_szs f1
  have hf40 := hfz.2.2.1
  have hf70 := hfz.2.2.2.1
  obtain ⟨K, hK⟩ : ∃ K : AH, K = h ++ [.row [.str ⟨⟨p.name⟩⟩, .sl (encT p.kinds) .free, .sl (encT p.offices) .free, .sl (p.rules.map encRl) .free, .int .i64 p.change.k, .int .i64 p.change.n, .int .i64 p.change.no, .str ⟨⟨p.change.name⟩⟩, .sl (p.change.l.map encX) .free, .int .i64 p.mode] 28] := ⟨_, rfl⟩
  have hKp : ∀ l, (K ++ l)[h.length]? = some (.row [.str ⟨⟨p.name⟩⟩, .sl (encT p.kinds) .free, .sl (encT p.offices) .free, .sl (p.rules.map encRl) .free, .int .i64 p.change.k, .int .i64 p.change.n, .int .i64 p.change.no, .str ⟨⟨p.change.name⟩⟩, .sl (p.change.l.map encX) .free, .int .i64 p.mode] 28) := fun l => by rw [hK]; simp
  rw [← hK]
  refine awp_loopL (β := Abs.Own × AH) who [1, 2, 3, 4, 5, 15, 69, 70, 71] (fun don b => [(1, .int .i64 kind), (2, .int .i64 value), (3, .sl (encHl hs) .free), (4, .sl (encI who) .free), (5, .ptr (some (h.length, 0))), (15, .sl (encI (ownF hs don)) b.1), (69, .sl (encI who) .free), (70, .int .i64 who.length), (71, .int .i64 don.length)]) (fun b => K ++ b.2) (fun don _ b => OwnAt K b.2 (ownF hs don).length b.1) (.full, []) ?_ (by simp) trivial Ty.mixed (by kernel_rfl) ?_ ?_
  · simp (disch := omega) only [go_sem, seval, List.length_nil]
    rfl
  · rintro don x r' ⟨own, X⟩ hdn hown
    simp only at hown ⊢
    have hlen : who.length = don.length + 1 + r'.length := by rw [hdn]; simp; omega
    have e2 : (encI who)[don.length]? = some (.int .i64 x) := by rw [hdn]; exact encI_get don r' x
    simp (disch := omega) only [go_sem, seval, encI_len]
    refine aIf.pos (by omega) ?_
    simp (disch := omega) only [go_sem, seval, e2, encHl_len]
    refine awp_loopL (β := AH) hs [1, 2, 3, 4, 5, 15, 17, 18, 69, 70, 71, 75, 76, 77] (fun dn b => [(1, .int .i64 kind), (2, .int .i64 value), (3, .sl (encHl hs) .free), (4, .sl (encI who) .free), (5, .ptr (some (h.length, 0))), (15, .sl (encI (ownF hs don)) own), (17, .int .i64 x), (18, .bool (dn.any fun l => l.any fun y => decide (y.person = x))), (69, .sl (encI who) .free), (70, .int .i64 who.length), (71, .int .i64 don.length), (75, .sl (encHl hs) .free), (76, .int .i64 hs.length), (77, .int .i64 dn.length)]) (fun b => K ++ b) (fun _ _ b => OwnAt K b (ownF hs don).length own) X ?_ rfl hown Ty.mixed (by kernel_rfl) ?_ ?_
    · simp (disch := omega) only [go_sem, seval, List.length_nil, List.any_nil]
    · rintro dn l r2 Y hd2 hownY
      have hlen2 : hs.length = dn.length + 1 + r2.length := by rw [hd2]; simp; omega
      have e3 : (encHl hs)[dn.length]? = some (.sl (l.map encHd) .free) := by rw [hd2]; exact rowMid ..
      have hl70 := hf70 l (by rw [hd2]; simp)
      simp (disch := omega) only [go_sem, seval, encHl_len]
      refine aIf.pos (by omega) ?_
      simp (disch := omega) only [go_sem, seval, e3, List.length_map]
      obtain ⟨A, hA⟩ : ∃ A : Bool, A = dn.any fun l => l.any fun y => decide (y.person = x) := ⟨_, rfl⟩
      rw [← hA]
      refine awp_loopL (β := AH) l [1, 2, 3, 4, 5, 15, 17, 18, 69, 70, 71, 75, 76, 77, 81, 82, 83] (fun dm b => [(1, .int .i64 kind), (2, .int .i64 value), (3, .sl (encHl hs) .free), (4, .sl (encI who) .free), (5, .ptr (some (h.length, 0))), (15, .sl (encI (ownF hs don)) own), (17, .int .i64 x), (18, .bool (A || dm.any fun y => decide (y.person = x))), (69, .sl (encI who) .free), (70, .int .i64 who.length), (71, .int .i64 don.length), (75, .sl (encHl hs) .free), (76, .int .i64 hs.length), (77, .int .i64 dn.length), (81, .sl (l.map encHd) .free), (82, .int .i64 l.length), (83, .int .i64 dm.length)]) (fun b => K ++ b) (fun _ _ b => OwnAt K b (ownF hs don).length own) Y ?_ rfl hownY Ty.mixed (by kernel_rfl) ?_ ?_
      · simp (disch := omega) only [go_sem, seval, List.length_nil, List.any_nil, Bool.or_false]
      · rintro dm y r3 Z hd3 hownZ
        have hlen3 : l.length = dm.length + 1 + r3.length := by rw [hd3]; simp; omega
        have e4 : (l.map encHd)[dm.length]? = some (encHd y) := by rw [hd3]; exact rowMid ..
        rw [encHd] at e4
        simp (disch := omega) only [go_sem, seval, List.length_map]
        refine aIf.pos (by omega) ?_
        simp (disch := omega) only [go_sem, seval, e4]
        have hnx : (A || (dm ++ [y]).any fun y => decide (y.person = x)) = ((A || dm.any fun y => decide (y.person = x)) || decide (y.person = x)) := by
          rw [List.any_append, List.any_cons, List.any_nil, Bool.or_false, Bool.or_assoc]
        cases hb : (A || dm.any fun y => decide (y.person = x)) <;> rw [hb] at hnx <;> simp (disch := omega) only [go_sem, seval]
        · refine roundL_next (Z ++ [.row [.int .i64 y.person, .int .i64 y.weight] 44]) (hownZ.app _) ?_ ?_
          · rw [hnx]
            simp (disch := omega) only [go_sem, seval, List.length_append, Bool.false_or]
          · simp
        · refine roundL_next (Z ++ [.row [.int .i64 y.person, .int .i64 y.weight] 44]) (hownZ.app _) ?_ ?_
          · rw [hnx]
            simp (disch := omega) only [go_sem, seval, List.length_append, Bool.true_or]
          · simp
      · rintro Z hownZ
        simp (disch := omega) only [go_sem, seval, List.length_map]
        refine AWP.keep [1, 2, 3, 4, 5, 15, 17, 18, 69, 70, 71, 75, 76, 77] (aCode_ok Ty.mixed _ _ _ _ (by kernel_rfl) ?_)
        simp (disch := omega) only [go_sem, seval]
        have hn2 : (dn ++ [l]).any (fun l => l.any fun y => decide (y.person = x)) = (A || l.any fun y => decide (y.person = x)) := by
          rw [List.any_append, List.any_cons, List.any_nil, Bool.or_false, hA]
        refine roundL_next Z hownZ ?_ rfl
        rw [hn2]
        simp (disch := omega) only [go_sem, seval, List.length_append]
    · rintro Y hownY
      simp (disch := omega) only [go_sem, seval, encHl_len]
      refine AWP.keep [1, 2, 3, 4, 5, 15, 17, 18, 69, 70, 71] (aCode_ok Ty.mixed _ _ _ _ (by kernel_rfl) ?_)
      simp (disch := omega) only [go_sem, seval]
      have hho : (hs.any fun l => l.any fun y => decide (y.person = x)) = holdsF hs x := rfl
      rw [hho]
      have hap : ownF hs (don ++ [x]) = ownF hs don ++ (if holdsF hs x then [x] else []) := by
        rw [ownF, List.filter_append]; congr 1
        cases hb : holdsF hs x <;> simp [List.filter_cons, hb]
      have hol : (ownF hs don).length ≤ don.length := List.length_filter_le _ _
      cases hb : holdsF hs x <;> rw [hb] at hap <;> simp (disch := omega) only [go_sem, seval]
      · rw [if_neg (by decide), List.append_nil] at hap
        refine AWP.keep [1, 2, 3, 4, 5, 15, 69, 70, 71] (aCode_ok Ty.mixed _ _ _ _ (by kernel_rfl) ?_)
        simp (disch := omega) only [go_sem, seval]
        refine roundL_next (own, Y) ?_ ?_ rfl
        · rw [hap]; exact hownY
        · simp (disch := omega) only [go_sem, seval, List.length_append, hap]
      · rw [if_pos rfl] at hap
        have ei : [AV.int .i64 x] = encI [x] := rfl
        rw [ei]
        refine aAp_sl (by rw [encI_len]; exact hownY) (rowsOK_I _) (rowsOK_I _) (by rw [encI_len]; simp [encI]; omega) (by rw [encI_len]; simp [encI]; omega) fun j' own' ho' hg => ?_
        simp (disch := omega) only [go_sem, seval]
        refine AWP.keep [1, 2, 3, 4, 5, 15, 69, 70, 71] (aCode_ok Ty.mixed _ _ _ _ (by kernel_rfl) ?_)
        simp (disch := omega) only [go_sem, seval]
        refine roundL_next (own', j') ?_ ?_ rfl
        · rw [hap]; simpa [encI_len] using ho'
        · simp (disch := omega) only [go_sem, seval, List.length_append, hap, encI, List.map_append]
  · rintro ⟨own, X⟩ hown
    simp only at hown ⊢
    simp (disch := omega) only [go_sem, seval, encI_len]
    refine AWP.keep [1, 2, 3, 4, 5, 15] (aCode_ok Ty.mixed _ _ _ _ (by kernel_rfl) ?_)
    simp (disch := omega) only [go_sem, seval, encHl_len]
    refine ⟨Int.le_refl _, by omega, by omega, ?_⟩
    obtain ⟨K2, hK2⟩ : ∃ K2 : AH, K2 = K ++ X := ⟨_, rfl⟩
    have hKp2 : ∀ l, (K2 ++ l)[h.length]? = some (.row [.str ⟨⟨p.name⟩⟩, .sl (encT p.kinds) .free, .sl (encT p.offices) .free, .sl (p.rules.map encRl) .free, .int .i64 p.change.k, .int .i64 p.change.n, .int .i64 p.change.no, .str ⟨⟨p.change.name⟩⟩, .sl (p.change.l.map encX) .free, .int .i64 p.mode] 28) := fun l => by rw [hK2, List.append_assoc]; exact hKp _
    have hlK2 : K.length + X.length = K2.length := by rw [hK2]; simp
    rw [← List.append_assoc, ← hK2]
    try rw [hlK2]
    have hzr : zrow hs.length [AV.sl [] .full] = flC [] hs.length := by
      rw [flC, List.nil_append, zrow]
      induction hs.length with
      | zero => rfl
      | succ n ih => rw [List.replicate_succ, List.flatten_cons, ih, List.replicate_succ]; rfl
    rw [hzr]
    refine awp_loopL (β := List AV × AH) hs [1, 2, 3, 4, 5, 15, 23, 105, 106, 107] (fun dn b => [(1, .int .i64 kind), (2, .int .i64 value), (3, .sl (encHl hs) .free), (4, .sl (encI who) .free), (5, .ptr (some (h.length, 0))), (15, .sl (encI (ownF hs who)) own), (23, .ms K2.length 0 hs.length hs.length 1), (105, .sl (encHl hs) .free), (106, .int .i64 hs.length), (107, .int .i64 dn.length)]) (fun b => K2 ++ .row (flC b.1 (hs.length - b.1.length)) 42 :: b.2) (fun dn _ b => looseL b.1 = encHl (flatF dn) ∧ b.1.length = dn.length ∧ ∀ c ∈ b.1, c.isAgg = false) ([], []) ?_ ?_ ⟨rfl, rfl, fun c hc => by cases hc⟩ Ty.mixed (by kernel_rfl) ?_ ?_
    · simp (disch := omega) only [go_sem, seval, List.length_nil]
    · simp
    · rintro dn l r2 ⟨D, Y⟩ hd2 ⟨hD, hDl, hDa⟩
      simp only at hD hDl hDa ⊢
      have hlen2 : hs.length = dn.length + 1 + r2.length := by rw [hd2]; simp; omega
      have e3 : (encHl hs)[dn.length]? = some (.sl (l.map encHd) .free) := by rw [hd2]; exact rowMid ..
      have hl70 := hf70 l (by rw [hd2]; simp)
      obtain ⟨n2, hn2⟩ : ∃ n2, hs.length - D.length = n2 + 1 := ⟨hs.length - D.length - 1, by omega⟩
      simp (disch := omega) only [go_sem, seval, encHl_len]
      refine aIf.pos (by omega) ?_
      simp (disch := omega) only [go_sem, seval, e3, List.length_map]
      rw [hn2]
      refine awp_loopL (β := List Hd × Abs.Own × AH) l [1, 2, 3, 4, 5, 15, 23, 24, 105, 106, 107, 112, 113, 114] (fun dm b => [(1, .int .i64 kind), (2, .int .i64 value), (3, .sl (encHl hs) .free), (4, .sl (encI who) .free), (5, .ptr (some (h.length, 0))), (15, .sl (encI (ownF hs who)) own), (23, .ms K2.length 0 hs.length hs.length 1), (24, .int .i64 dn.length), (105, .sl (encHl hs) .free), (106, .int .i64 hs.length), (107, .int .i64 dn.length), (112, .sl (l.map encHd) .free), (113, .int .i64 l.length), (114, .int .i64 dm.length)]) (fun b => K2 ++ .row (D ++ .sl ((lineW b.1).map encHd) b.2.1 :: List.replicate n2 (.sl [] .full)) 42 :: b.2.2) (fun dm _ b => b.1 = dm ∧ OwnAt (K2 ++ [.hole]) b.2.2 dm.length b.2.1) ([], .full, Y) ?_ ?_ ⟨rfl, trivial⟩ Ty.mixed (by kernel_rfl) ?_ ?_
      · simp (disch := omega) only [go_sem, seval, List.length_nil]
      · rw [flC, List.replicate_succ]; rfl
      · rintro dm y r3 ⟨dm', ow, Z⟩ hd3 ⟨rfl, hownZ⟩
        simp only at hownZ ⊢
        have hlen3 : l.length = dm'.length + 1 + r3.length := by rw [hd3]; simp; omega
        have e4 : (l.map encHd)[dm'.length]? = some (encHd y) := by rw [hd3]; exact rowMid ..
        rw [encHd] at e4
        simp (disch := omega) only [go_sem, seval, List.length_map]
        refine aIf.pos (by omega) ?_
        simp (disch := omega) only [go_sem, seval, e4]
        have hdr : ∀ (a : AV) (R : List AV), List.drop (0 + dn.length * 1) (D ++ a :: R) = a :: R := fun a R => by
          rw [show 0 + dn.length * 1 = D.length by omega, List.drop_left]
        have hst : ∀ (a b : AV) (R : List AV), (D ++ a :: R).set (0 + dn.length * 1) b = D ++ b :: R := fun a b R => by
          rw [show 0 + dn.length * 1 = D.length by omega]; simp
        refine ⟨by omega, ?_⟩
        rw [hdr]
        simp (disch := omega) only [go_sem, seval]
        have eR : ∀ (o : AObj) (L : AH), K2 ++ o :: L = (K2 ++ [o]) ++ L := fun o L => by simp
        have el1 : [AV.agg [.int .i64 y.person, .int .i64 1]] = (lineW [y]).map encHd := rfl
        have ell : (lineW dm').map encHd ++ (lineW [y]).map encHd = (lineW (dm' ++ [y])).map encHd := by simp [lineW]
        rw [eR, el1]
        refine aAp_sl (by rw [List.length_map, lineW, List.length_map]; exact OwnAt.len (hownZ.app _) (by simp)) (rowsOK_H _) (rowsOK_H _) (by simp [lineW]; omega) (by simp [lineW]; omega) fun j' own' ho' hg => ?_
        rw [ell, ← eR]
        simp (disch := omega) only [go_sem, seval]
        refine ⟨by omega, by simp; omega, ?_⟩
        rw [hst]
        refine roundL_next (dm' ++ [y], own', j') ⟨rfl, ?_⟩ ?_ rfl
        · refine OwnAt.len (K := K2 ++ [.row (D ++ .sl ((lineW dm').map encHd) ow :: List.replicate n2 (.sl [] .full)) 42]) ?_ (by simp)
          simpa [lineW] using ho'
        · simp (disch := omega) only [go_sem, seval, List.length_append]
      · rintro ⟨dm', ow, Z⟩ ⟨rfl, hownZ⟩
        simp only at hownZ ⊢
        simp (disch := omega) only [go_sem, seval, List.length_map]
        refine AWP.keep [1, 2, 3, 4, 5, 15, 23, 105, 106, 107] (aCode_ok Ty.mixed _ _ _ _ (by kernel_rfl) ?_)
        simp (disch := omega) only [go_sem, seval]
        refine roundL_next (D ++ [.sl ((lineW dm').map encHd) ow], Z) ⟨?_, ?_, ?_⟩ ?_ ?_
        · rw [looseL_app, hD]; simp [looseL, loose, loose_Hs, flatF, encHl]
        · simp [hDl]
        · intro c hc
          rcases List.mem_append.1 hc with hc | hc
          · exact hDa c hc
          · rw [List.mem_singleton] at hc; rw [hc]; rfl
        · simp (disch := omega) only [go_sem, seval, List.length_append]
        · have e5 : hs.length - (D ++ [AV.sl ((lineW dm').map encHd) ow]).length = n2 := by simp; omega
          simp only [flC]
          rw [e5, List.append_assoc]; rfl
    · rintro ⟨D, Y⟩ ⟨hD, hDl, hDa⟩
      simp only at hD hDl hDa ⊢
      simp (disch := omega) only [go_sem, seval, encHl_len]
      have e5 : flC D (hs.length - D.length) = D := by rw [flC, hDl, Nat.sub_self]; simp
      rw [e5]
      refine AWP.keep [1, 2, 3, 4, 5, 15, 23] ?_
      simp (disch := omega) only [go_sem, seval]
      have hg : (K2 ++ .row D 42 :: Y)[K2.length]? = some (.row D 42) := by simp
      refine AWP.freeze hg (Froze.set hg) ?_
      have hlt : h.length ≠ K2.length := by rw [hK2, hK]; simp
      simp only [List.map_cons, List.map_nil]
      rw [fz_whole K2.length hs.length D (by omega) hDa, fz_ptr hlt]
      simp only [fzV, fz_I, fz_HH]
      have hset : (K2 ++ .row D 42 :: Y).set K2.length .frozen = K2 ++ .frozen :: Y := by simp
      rw [hset]
      have c6 := fun h => c2 hs who h f1 (few_S f1 (by omega))
      have hown2 : (ownF hs who).length ≤ 1000 := by have : (ownF hs who).length ≤ who.length := List.length_filter_le _ _; omega
      have c7 := fun h => c2 hs (ownF hs who) h f1 (few_S f1 hown2)
      have c8 := fun h => c2 (flatF hs) who h f1 ⟨by rw [flatF, List.length_map]; omega, fun l hl => by
        obtain ⟨l0, h0, rfl⟩ := List.mem_map.1 hl
        have := hf70 l0 h0
        rw [lineW, List.length_map]; omega, by omega⟩
      rw [perm_ok f3 ⟨f4.1, f4.2.1⟩ f4.2.2 f5 f6 hr, encB2] at c6
      rw [perm_ok f3 ⟨f4.1, f4.2.1⟩ f4.2.2 f5 (own_people f6) hr, ful_own, encB2] at c7
      rw [perm_ok f3 ⟨f4.1, f4.2.1⟩ f4.2.2 (flat_holders f5) f6 hr, encB2] at c8
      have hwe := ful_flat value hs who (x := r.x)
      generalize fulF value hs who r.x = b1 at c6 c7 hwe
      generalize fulF value (flatF hs) who r.x = b2 at c8 hwe
      have c9 := fun h => weigh_calls_k Γ _ r.x h (Nat.lt_succ_self _) (hp.rulesX r hrm)
      rw [encX_eq] at c9
      rw [encRl_eq] at e1
      refine aCode_ok Ty.mixed _ _ _ _ (by kernel_rfl) ?_
      simp (disch := omega) only [go_sem, seval, hKp2]
      refine ACalls.det (c6 _) ?_
      simp (disch := omega) only [go_sem, seval, hKp2]
      refine ACalls.ofLoose (ACalls.det (c7 _) ?_) (by simp only [looseL, loose, loose_T, loose_Rs, loose_Xs, loose_I, loose_HH, hD])
      simp (disch := omega) only [go_sem, seval, hKp2]
      refine ACalls.ofLoose (ACalls.det (c8 _) ?_) (by simp only [looseL, loose, loose_T, loose_Rs, loose_Xs, loose_I, loose_HH, hD])
      simp (disch := omega) only [go_sem, seval, hKp2]
      cases hbb : (b1 == b2) <;> simp (disch := omega) only [go_sem, seval, hKp2]
      · refine ⟨by omega, ?_⟩
        rw [e1]
        simp (disch := omega) only [go_sem, seval]
        refine ACalls.det (c9 _) ?_
        simp (disch := omega) only [go_sem, seval]
        have hwt : weighF r.x = true := by
          cases hw2 : weighF r.x with
          | true => rfl
          | false => rw [hwe hw2] at hbb; simp at hbb
        rw [hwt, hK2, hK]
        simp
      · rw [hK2, hK]
        simp
end Go.Proofs.YtmdiebdplakccaaDoor
