/- Texts joined: PolT, PolU. No conditions. -/
import Derived.Test.YtjdhgaflenhljaaGreatDoorMrEE
import Derived.Test.YtjdhgaflenhljaaGreatDoorMrEB
/- The program's attempt, Resolve. No conditions. -/
set_option linter.unusedSimpArgs false
set_option linter.unusedVariables false
namespace Go.Proofs.YtjdhgaflenhljaaGreatDoor
open Go Go.Proofs Go.Abs

theorem callsD_mono {P : Program} {Γ : Nat → Option (List AV)} {g : FuncId} {l : List AV} {h : AH} {p : Option Value} {R R' : AH → Prop} (H : ACallsD P Γ g l h p R) (hR : ∀ h, R h → R' h) : ACallsD P Γ g l h p R' :=
  ⟨H.1, fun G w vs hI hv => CallsDIn.mono (H.2 G w vs hI hv) fun e u' w' hr => by
    obtain ⟨h1, h2, G', h', h3, h4, h5⟩ := hr
    exact ⟨h1, h2, G', h', h3, h4, hR _ h5⟩⟩
theorem dead_same {h l : AH} {k : Nat} (e : k = h.length + l.length) : deadH k (h ++ l) = h ++ l := by
  have := deadH_full (h ++ l)
  rwa [List.length_append, ← e] at this
set_option maxRecDepth 100000 in
theorem att1_none (Γ : Nat → Option (List AV)) (i : Nat) (h : AH) : ACallsD Tryz.prog Γ 81 [.ptr (some (i, 0))] h none fun h' => h' = h := by
  refine acallsD_code none (fun q e => by cases e) Tryz.func81 rfl rfl rfl rfl rfl Ty.mixed (by kernel_rfl) (by kernel_rfl) ?_
  rw [recV]
  simp (disch := omega) only [go_sem, seval]
set_option maxRecDepth 100000 in
theorem att1_some (Γ : Nat → Option (List AV)) (i : Nat) (x : AV) (e : Int) (h : AH) (hi : h[i]? = some (.row [x] 26)) : ACallsD Tryz.prog Γ 81 [.ptr (some (i, 0))] h (some (errU e)) fun h' => ∃ l, h' = h.set i (.row [.int .i64 e] 26) ++ l := by
  refine acallsD_code (some (errV e, errU e)) (fun q eq => by cases eq; exact errV_exact e) Tryz.func81 rfl rfl rfl rfl rfl Ty.mixed (by kernel_rfl) (by kernel_rfl) ?_
  rw [recV, errV]
  simp (disch := omega) only [go_sem, seval, hi]
  rw [List.getElem?_append_left (List.getElem?_eq_some_iff.1 hi).1, hi]
  simp (disch := omega) only [go_sem, seval]
  exact ⟨_, List.set_append_left _ _ (List.getElem?_eq_some_iff.1 hi).1⟩
set_option maxRecDepth 100000 in
theorem res1_calls (Γ : Nat → Option (List AV)) (hΓ : Γ 0 = some kindsC) (B : Nat) (p : Pol) (i : Nat) (h : AH) (hB : B ≤ h.length) (hs : ShP p) (hsz : ∀ x ∈ exprs p, sizeX x ≤ 1000) (hrl : p.rules.length ≤ 1000000) (hi : h[i]? = some (.row (polC p) 37)) :
    ACallsX Tryz.prog Γ B 60 [.ptr (some (i, 0))] h (fun v h' => h' = h ∧ v = .tuple [] ∧ errF p = 0) fun u => u = errU (errF p) ∧ errF p ≠ 0 := by
  refine acallsX_code (rs := []) 60 Tryz.func60 rfl rfl rfl rfl (by kernel_rfl) ?_
  have hd : errF p = if sizedF p = false then 2 else if namesF p = false then 201 else if formedF p = false then 200 else 0 := rfl
  have c1 := fun h hB => sizes_calls Γ B p h hB hs hsz
  have c2 := fun h hB => names_calls Γ B p h hB hs hsz hrl
  have c3 := fun h hB => form_calls Γ hΓ B p h hB hs hsz hrl
  have he : polC p = [.str ⟨⟨p.name⟩⟩, .sl (encT p.kinds) .free, .sl (encT p.offices) .free, .sl (p.rules.map encRl) .free, .int .i64 p.change.k, .int .i64 p.change.n, .int .i64 p.change.no, .str ⟨⟨p.change.name⟩⟩, .sl (p.change.l.map encX) .free, .int .i64 p.mode] := by
    have := encPol_eq p
    rw [encPol] at this
    exact AV.agg.inj this
  rw [encPol_eq] at c1 c2 c3
  rw [he] at hi
  simp (disch := omega) only [go_sem, seval, hi]
  refine (c1 h hB).mono (fun v h' ⟨e1, e2, e3⟩ => ?_) (fun u ⟨hu, hz⟩ => ?_)
  rotate_left
  · rw [hu]
    have hd2 : errF p = 2 := by rw [hd, hz]; rfl
    exact panSame (Same.refl _ _) (Nat.le_refl _) ⟨by rw [hd2], by rw [hd2]; decide⟩
  subst e1 e2
  rw [e3] at hd
  simp (disch := omega) only [go_sem, seval, hi]
  refine (c2 _ hB).mono (fun v h' ⟨e1, e2, e4⟩ => ?_) (fun u ⟨hu, hz⟩ => ?_)
  rotate_left
  · rw [hu]
    have hd2 : errF p = 201 := by rw [hd, hz]; rfl
    exact panSame (Same.refl _ _) (Nat.le_refl _) ⟨by rw [hd2], by rw [hd2]; decide⟩
  subst e1 e2
  rw [e4] at hd
  simp (disch := omega) only [go_sem, seval, hi]
  refine (c3 _ hB).mono (fun v h' ⟨e1, e2, e5⟩ => ?_) (fun u ⟨hu, hz⟩ => ?_)
  rotate_left
  · rw [hu]
    have hd2 : errF p = 200 := by rw [hd, hz]; rfl
    exact panSame (Same.refl _ _) (Nat.le_refl _) ⟨by rw [hd2], by rw [hd2]; decide⟩
  subst e1 e2
  rw [e5] at hd
  simp (disch := omega) only [go_sem, seval]
  rw [hd]; rfl
set_option maxRecDepth 100000 in
theorem attempt_calls (Γ : Nat → Option (List AV)) (hΓ : Γ 0 = some kindsC) (p : Pol) (i : Nat) (h : AH) (hs : ShP p) (hsz : ∀ x ∈ exprs p, sizeX x ≤ 1000) (hrl : p.rules.length ≤ 1000000) (hi : h[i]? = some (.row (polC p) 37)) :
    ACalls Tryz.prog Γ 59 [.func 60 [] [.ptr (some (i, 0))]] h fun v h' => h' = h ∧ v = .int .i64 (errF p) := by
  have hil : i < h.length := (List.getElem?_eq_some_iff.1 hi).1
  refine ACalls.drop ?_
  refine acalls_defer2 (rs := [.cell 2 26]) (h.length + 1) 59 Tryz.func59 rfl rfl rfl rfl (by kernel_rfl) (by kernel_rfl) (by kernel_rfl) ?_
  simp (disch := omega) only [go_sem, seval]
  refine (res1_calls Γ hΓ _ p i _ (by simp) hs hsz hrl (by rw [List.getElem?_append_left hil]; exact hi)).mono (fun v h' ⟨e1, e2, e3⟩ => ?_) (fun u ⟨hu, hz⟩ => ?_)
  · subst e1 e2
    simp (disch := omega) only [go_sem, seval]
    refine callsD_mono (att1_none Γ _ _) ?_
    rintro _ rfl
    simp (disch := omega) only [go_sem, seval]
    rw [e3]
  · rw [hu]
    simp (disch := omega) only [go_sem, seval]
    rw [dead_same (by simp)]
    refine endF_panic (errV (errF p)) (errV_exact (errF p)) (callsD_mono (att1_some Γ _ _ _ _ (by simp; rfl)) ?_)
    rintro _ ⟨l, rfl⟩
    simp (disch := omega) only [go_sem, seval]
def prR (h : AH) (p : Pol) (dn : List Rl) (own : Abs.Own) : AH := h ++ [.row [.str ⟨⟨p.name⟩⟩, .sl (encT p.kinds) .free, .sl (encT p.offices) .free, .sl (p.rules.map encRl) .free, .int .i64 p.change.k, .int .i64 p.change.n, .int .i64 p.change.no, .str ⟨⟨p.change.name⟩⟩, .sl (p.change.l.map encX) .free, .int .i64 p.mode] 37, .row [.str ⟨⟨p.name⟩⟩, .sl (encT p.kinds) .free, .sl (encT p.offices) .free, .sl ((resRs p.offices 0 dn).map encRl) own, .int .i64 p.change.k, .int .i64 p.change.n, .int .i64 p.change.no, .str ⟨⟨p.change.name⟩⟩, .sl (p.change.l.map encX) .free, .int .i64 p.mode] 37]
set_option maxHeartbeats 1600000 in
set_option maxRecDepth 100000 in
theorem presolveP_calls (Γ : Nat → Option (List AV)) (hΓ : Γ 0 = some kindsC) (p : Pol) (h : AH) (hs : ShP p) (hsz : ∀ x ∈ exprs p, sizeX x ≤ 1000) (hrl : p.rules.length ≤ 1000000) :
    ACalls Tryz.prog Γ 42 [encPol p] h fun v h' => h' = h ∧ ∃ q, v = .tuple [encPol q, .int .i64 (errF p)] := by
  refine ACalls.dropL ?_
  refine acalls_code (rs := [.cell 2 37, .tmp 3]) Tryz.func42 rfl rfl rfl rfl Ty.mixed (by kernel_rfl) ?_
  have hpc : polC p = [.str ⟨⟨p.name⟩⟩, .sl (encT p.kinds) .free, .sl (encT p.offices) .free, .sl (p.rules.map encRl) .free, .int .i64 p.change.k, .int .i64 p.change.n, .int .i64 p.change.no, .str ⟨⟨p.change.name⟩⟩, .sl (p.change.l.map encX) .free, .int .i64 p.mode] := by
    have := encPol_eq p
    rw [encPol] at this
    exact AV.agg.inj this
  rw [encPol_eq]
  simp (disch := omega) only [go_sem, seval]
  refine ACalls.det (attempt_calls Γ hΓ p _ _ hs hsz hrl (by rw [hpc]; simp)) ?_
  simp (disch := omega) only [go_sem, seval]
  refine aIf.intro (fun h1 => ?_) (fun h1 => ?_) <;> simp (disch := omega) only [go_sem, seval]
  rotate_left
  · exact ⟨⟨[], [], [], [], .mk 0 0 0 [] [], 0⟩, rfl⟩
  have hr := hs.rules
  have c5 := fun x h hx hl => presolve_calls Γ p.offices x h hs.offices hx hl
  refine awp_loopL (β := List Rl × Abs.Own × AH) p.rules [1, 2, 3, 15, 16, 17] (fun don _ => [(1, .ptr (some (h.length, 0))), (2, .ptr (some (h.length + 1, 0))), (3, .int .i64 (errF p)), (15, .sl (p.rules.map encRl) .free), (16, .int .i64 p.rules.length), (17, .int .i64 don.length)]) (fun b => prR h p b.1 b.2.1 ++ b.2.2) (fun don _ b => b.1 = don ∧ OwnAt (prR h p b.1 b.2.1) b.2.2 don.length b.2.1) ([], .full, []) ?_ (by simp [prR, resRs]) ⟨rfl, trivial⟩ Ty.mixed (by kernel_rfl) ?_ ?_
  · simp (disch := omega) only [go_sem, seval, List.length_nil, List.length_map]
  · rintro don x r ⟨dn, own, X⟩ hdn ⟨rfl, hown⟩
    simp only at hown ⊢
    have hlen : p.rules.length = dn.length + 1 + r.length := by rw [hdn]; simp; omega
    have e1 : (p.rules.map encRl)[dn.length]? = some (encRl x) := by rw [hdn]; exact rowMid ..
    have hx : x ∈ p.rules := by rw [hdn]; simp
    have c6 := fun h => c5 x.x h (hs.rulesX x hx) (by have := hsz x.x (List.mem_append_left _ (List.mem_map.2 ⟨x, hx, rfl⟩)); omega)
    rw [encX_eq x.x, encX_eq (resX p.offices x.x)] at c6
    rw [encRl_eq] at e1
    simp (disch := omega) only [go_sem, seval, List.length_map, prR]
    refine aIf.pos (by omega) ?_
    simp (disch := omega) only [go_sem, seval, e1, prR]
    refine ACalls.det (c6 _) ?_
    simp (disch := omega) only [go_sem, seval, prR]
    have eh : ∀ dn own X, h ++ .row [.str ⟨⟨p.name⟩⟩, .sl (encT p.kinds) .free, .sl (encT p.offices) .free, .sl (p.rules.map encRl) .free, .int .i64 p.change.k, .int .i64 p.change.n, .int .i64 p.change.no, .str ⟨⟨p.change.name⟩⟩, .sl (p.change.l.map encX) .free, .int .i64 p.mode] 37 :: .row [.str ⟨⟨p.name⟩⟩, .sl (encT p.kinds) .free, .sl (encT p.offices) .free, .sl ((resRs p.offices 0 dn).map encRl) own, .int .i64 p.change.k, .int .i64 p.change.n, .int .i64 p.change.no, .str ⟨⟨p.change.name⟩⟩, .sl (p.change.l.map encX) .free, .int .i64 p.mode] 37 :: X = prR h p dn own ++ X := fun dn own X => by simp [prR]
    rw [eh]
    have er : AV.agg [.str ⟨⟨x.kind⟩⟩, .int .i64 dn.length, .int .i64 x.think, .int .i64 (resX p.offices x.x).k, .int .i64 (resX p.offices x.x).n, .int .i64 (resX p.offices x.x).no, .str ⟨⟨(resX p.offices x.x).name⟩⟩, .sl ((resX p.offices x.x).l.map encX) .free] = encRl (resRl p.offices dn.length x) := by
      rw [encRl_eq]; rfl
    rw [er]
    have er2 : (resRs p.offices 0 dn).map encRl ++ [encRl (resRl p.offices dn.length x)] = (resRs p.offices 0 (dn ++ [x])).map encRl := by
      rw [resRs_app, Int.zero_add]; simp [resRs]
    refine aAp_sl (by rw [List.length_map, resRs_len]; exact hown.app _) (rowsOK_R _) (rowsOK_R [resRl p.offices dn.length x]) (by simp [resRs_len]; omega) (by simp [resRs_len]; omega) fun j' own' ho' hg => ?_
    rw [er2, prR]
    simp (disch := omega) only [go_sem, seval]
    refine roundL_next (dn ++ [x], own', j') ⟨rfl, ?_⟩ ?_ ?_
    · refine OwnAt.len (K := prR h p dn own) ?_ (by simp [prR])
      simpa [resRs_len] using ho'
    · simp (disch := omega) only [go_sem, seval, List.length_append]
    · simp [prR]
  · rintro ⟨dn, own, X⟩ ⟨rfl, hown⟩
    simp only at hown ⊢
    simp (disch := omega) only [go_sem, seval, List.length_map, prR]
    refine AWP.keep [1, 2, 3] (aCode_ok Ty.mixed _ _ _ _ (by kernel_rfl) ?_)
    simp (disch := omega) only [go_sem, seval, prR]
    have c7 := fun h => c5 p.change h hs.change (by have := hsz p.change (List.mem_append_right _ (by simp)); omega)
    rw [encX_eq p.change, encX_eq (resX p.offices p.change)] at c7
    refine ACalls.det (c7 _) ?_
    simp (disch := omega) only [go_sem, seval]
    refine ⟨resP p, ?_⟩
    rw [encPol_eq (resP p), h1]
    rfl
end Go.Proofs.YtjdhgaflenhljaaGreatDoor

/- The program's resolved, Check. No conditions. -/
set_option linter.unusedSimpArgs false
set_option linter.unusedVariables false
namespace Go.Proofs.YtjdhgaflenhljaaGreatDoor
open Go Go.Proofs Go.Abs

section
variable {Γ : Nat → Option (List AV)} {N B : Nat} {σ : Tm} {Q : Exit → Tm → AH → Prop} {f0 : FuncId}
/-- **A range over parts** left by a return that writes. -/
theorem bwp_partsS {g : Operand} {ps : Array Tmp} {assign body : Code} {X : Value → Prop} (x : Ex) (d : Nat) (K : AH) (F : List (Ex × Nat) → AH) (Fs : AH) (J : List (Ex × Nat) → Prop) (St : List (Ex × Nat) → Ex × Nat → Prop)
    (hg : ev Γ σ g = partsV x d) (hB : B ≤ K.length) (hs : ShX x) (hd : d + depthX x ≤ 1000000) (c : Nat) (hF : ∀ don, (F don).length = c) (hFn : ∀ don, NoLoop (F don)) (hFs : Fs.length = c) (hFsn : NoLoop Fs) (hJ : J [])
    (yl : ∀ li : LI, li = ⟨N, σ, ps, assign, body, some f0⟩ → ∀ don y r Y, partsL d x = don ++ y :: r → J don → AYieldX Tryz.prog Γ B (K.length + c) [encPt y] (K ++ F don ++ .loop .ready none li :: Y) (fun v h' => (v = .bool true ∧ J (don ++ [y]) ∧ ∃ Z, NoLoop Z ∧ h' = K ++ F (don ++ [y]) ++ .loop .ready none li :: (Y ++ Z)) ∨ (v = .bool false ∧ St don y ∧ ∃ Z, NoLoop Z ∧ h' = K ++ Fs ++ .loop .done (some .ret) li :: (Y ++ Z))) X)
    (hN : J (partsL d x) → ∀ Y, Q .normal σ (K ++ F (partsL d x) ++ .dead :: Y))
    (hS : ∀ don y r, partsL d x = don ++ y :: r → St don y → ∀ Y, AWP Tryz.prog Γ N .ret Q σ (K ++ Fs ++ .dead :: Y))
    (hX : ∀ u, X u → Q (.panic (pan u)) σ (deadH B (K ++ F []))) : BWP Tryz.prog Γ f0 N (.rangeFunc g ps assign body) Q σ (K ++ F []) := by
  refine bwp_rangeFuncNL (B := B) (X := X) (hg.trans (by rw [partsV])) (by simp; omega) (fun li hli => ?_) hX
  have hl : ∀ don, (K ++ F don).length = K.length + c := fun don => by rw [List.length_append, hF]
  have hset : ∀ A : AH, A.length = c → ∀ o o' (Y : AH), (K ++ A ++ o :: Y).set (K.length + c) o' = K ++ A ++ o' :: Y := fun A e o o' Y => by
    rw [← e, ← List.length_append, List.set_append_right _ _ (Nat.le_refl _), Nat.sub_self, List.set_cons_zero]
  have hget : ∀ A : AH, A.length = c → ∀ o (Y : AH), (K ++ A ++ o :: Y)[K.length + c]? = some o := fun A e o Y => by
    rw [← e, ← List.length_append, List.getElem?_append_right (Nat.le_refl _), Nat.sub_self]; rfl
  have hsame : ∀ A A' Y Y' : AH, Same B (K ++ A ++ Y) (K ++ A' ++ Y') := fun A A' Y Y' i hi => by
    rw [List.append_assoc, List.append_assoc, List.getElem?_append_left (by omega), List.getElem?_append_left (by omega)]
  have split : ∀ A : AH, A.length = c → ∀ o (Y h' : AH), Fra (K.length + c + 1) (K ++ A ++ o :: Y) h' → ∃ Y', h' = K ++ A ++ o :: Y' := fun A ea o Y h' hf => by
    have e : K ++ A ++ o :: Y = (K ++ A ++ [o]) ++ Y := by simp
    rw [e] at hf
    have hl2 : (K ++ A ++ [o]).length = K.length + c + 1 := by rw [List.length_append, List.length_append, ea]; rfl
    rw [← hl2] at hf
    obtain ⟨Y', rfl, _⟩ := hf.split
    exact ⟨Y', by simp⟩
  have C : ConsX Γ B (K.length + c) (K.length + c + 1) X (partsL d x) (fun don hq => J don ∧ ∃ Y, hq = K ++ F don ++ .loop .ready none li :: Y) (fun hq => ∃ don y r Y, partsL d x = don ++ y :: r ∧ St don y ∧ hq = K ++ Fs ++ .loop .done (some .ret) li :: Y) := by
    refine ⟨by omega, ?_, ?_, ?_⟩
    · rintro don h1 h2 ⟨j, Y, rfl⟩ hf
      exact ⟨j, split _ (hF _) _ _ _ hf⟩
    · rintro h1 h2 ⟨don, y, r, Y, q1, q2, rfl⟩ hf
      obtain ⟨Y', rfl⟩ := split _ hFs _ _ _ hf
      exact ⟨don, y, r, Y', q1, q2, rfl⟩
    · rintro don y r h1 hdy hb ⟨j, Y, rfl⟩
      refine (yl li hli don y r Y hdy j).mono ?_ (fun u hu => hu)
      rintro v h2 (⟨rfl, q1, Z, q2, rfl⟩ | ⟨rfl, q1, Z, q2, rfl⟩)
      · refine ⟨?_, hsame _ _ _ _, .inl ⟨rfl, q1, _, rfl⟩⟩
        have := kept_tail K (F don) (F (don ++ [y])) Y Z (.loop .ready none li) (by rw [hF, hF]) (hFn _) q2
        rwa [hF] at this
      · refine ⟨?_, hsame _ _ _ _, .inr ⟨rfl, don, y, r, _, hdy, q1, rfl⟩⟩
        have := kept_tail K (F don) Fs Y Z (.loop .ready none li) (by rw [hF, hFs]) hFsn q2
        rw [hF] at this
        have := this.setB (s := .done) (p := some .ret) (li := li) (Nat.lt_succ_self (K.length + c)) (hget (F don) (hF _) _ Y)
        rwa [hset Fs hFs] at this
  rw [hl []]
  refine (parts1_calls Γ B X x d (K.length + c) (K.length + c + 1) _ _ (K ++ F [] ++ [.loop .ready none li]) hs hd C (by simp [hF]; omega) ⟨hJ, [], rfl⟩).mono ?_ (fun u hu => hu)
  rintro v h3 ⟨q1, q2, q3⟩
  rcases q3 with ⟨j, Y, rfl⟩ | ⟨don, y, r, Y, e1, e2, rfl⟩
  · rw [← hl []] at *
    refine rangeN_post (li0 := li) (by rw [hl]; exact hget _ (hF _) _ _) q1.old (by simp) ?_
    rw [afterLoop_none, hl, hset _ (hF _)]
    exact hN j Y
  · rw [← hl []] at *
    refine rangeN_post (li0 := li) (by rw [hl]; exact hget _ hFs _ _) q1.old (by simp) ?_
    rw [hl, hset _ hFs]
    exact hS don y r e1 e2 Y
end
set_option maxRecDepth 100000 in
theorem presolved_calls (Γ : Nat → Option (List AV)) (o : List Tx) (x : Ex) (h : AH) (ho : o.length ≤ 9223372036854775807) (hs : ShX x) (hl : sizeX x ≤ 1000) :
    ACalls Tryz.prog Γ 43 [.sl (encT o) .free, encX x] h fun v h' => h' = h ∧ v = .bool (resdF o x) := by
  refine ACalls.drop ?_
  refine ACallsX.calm (B := h.length) ?_
  refine acallsX_code (rs := [.cell 4 4]) 43 Tryz.func43 rfl rfl rfl rfl (by kernel_rfl) ?_
  rw [encX_chC, chC]
  simp (disch := omega) only [go_sem, seval]
  refine ACallsX.det ((parts_calls Γ x 1 _).args (by rw [encX_chC, chC]; rfl)) ?_
  simp (disch := omega) only [go_sem, seval, partsV]
  refine BWP.keep [2, 4, 8] ?_
  simp (disch := omega) only [go_sem, seval]
  have hdep := depth_size x
  obtain ⟨K, hK⟩ : ∃ K : AH, K = h ++ [.row [.sl (encT o) .free] 31, .row [.int .i64 x.k, .int .i64 x.n, .int .i64 x.no, .str ⟨⟨x.name⟩⟩, .sl (x.l.map encX) .free] 35] := ⟨_, rfl⟩
  have hKo : ∀ l, (K ++ l)[h.length]? = some (.row [.sl (encT o) .free] 31) := fun l => by rw [hK]; simp
  have eh : ∀ b : Bool, h ++ [.row [.sl (encT o) .free] 31, .row [.int .i64 x.k, .int .i64 x.n, .int .i64 x.no, .str ⟨⟨x.name⟩⟩, .sl (x.l.map encX) .free] 35, .row [.bool b] 4] = K ++ [.row [.bool b] 4] := fun b => by rw [hK]; simp
  have hKl : h.length + 2 = K.length := by rw [hK]; simp
  rw [eh, hKl]
  have bad : ∀ dn y r', partsL 1 x = dn ++ y :: r' → (y.1.no == wantF o y.1) = false → resdF o x = false := fun dn y r' e hn => by
    rw [resdF, ← partsL_all (fun y => y.no == wantF o y) 1 x, e, List.all_append, List.all_cons, hn]; simp
  refine bwp_partsS (B := h.length) (X := fun _ => False) x 1 K (fun _ => [.row [.bool false] 4]) [.row [.bool false] 4] (fun dn => dn.all (fun y => y.1.no == wantF o y.1) = true) (fun _ _ => resdF o x = false) ?_ (by omega) hs (by omega) 1 (fun _ => rfl) (fun _ ob ho st pe lj e => by rw [List.mem_singleton] at ho; subst ho; cases e) rfl (fun ob ho st pe lj e => by rw [List.mem_singleton] at ho; subst ho; cases e) rfl ?_ ?_ ?_ (fun _ hu => hu.elim)
  · simp (disch := omega) only [go_sem, seval, partsV]
  · rintro li hli dn y r' Z hdy j1
    rw [encPt, chC]
    refine ayieldX_L hli Tryz.func43 (by simp) rfl rfl Ty.mixed (by kernel_rfl) (by kernel_rfl) ?_
    simp (disch := omega) only [go_sem, seval]
    have hnl : NoLoop [.row [.int .i64 y.1.k, .int .i64 y.1.n, .int .i64 y.1.no, .str ⟨⟨y.1.name⟩⟩, .sl (y.1.l.map encX) .free, .int .i64 y.2] 104] := fun ob ho st pe lj e => by rw [List.mem_singleton] at ho; subst ho; cases e
    have hw : wantF o y.1 = if isNmd y.1 = true then idxT o y.1.name else 0 := rfl
    have hgo : ∀ w : Int, wantF o y.1 = w → (y.1.no = w → (dn ++ [y]).all (fun y => y.1.no == wantF o y.1) = true) ∧ (¬ y.1.no = w → resdF o x = false) := fun w hw => by
      refine ⟨fun e => ?_, fun e => bad dn y r' hdy (by rw [hw]; exact beq_eq_false_iff_ne.2 e)⟩
      rw [List.all_append, j1, List.all_cons, hw, e, beq_self_eq_true]; rfl
    refine ACallsX.det ((isNamed_calls Γ y.1 _).args (by rw [encX_eq])) ?_
    cases hn : isNmd y.1
    · rw [hn] at hw
      obtain ⟨g1, g2⟩ := hgo 0 hw
      simp (disch := omega) only [go_sem, seval]
      refine aIf.intro (fun h5 => ?_) (fun h5 => ?_) <;> simp (disch := omega) only [go_sem, seval]
      · exact .inl ⟨g1 h5, _, hnl, rfl⟩
      · exact .inr ⟨g2 h5, _, hnl, rfl⟩
    · rw [hn] at hw
      obtain ⟨g1, g2⟩ := hgo _ hw
      simp (disch := omega) only [go_sem, seval, hKo]
      refine ACallsX.det (sindex_calls Γ o y.1.name _ ho) ?_
      simp (disch := omega) only [go_sem, seval]
      refine aIf.intro (fun h5 => ?_) (fun h5 => ?_) <;> simp (disch := omega) only [go_sem, seval]
      · exact .inl ⟨g1 h5, _, hnl, rfl⟩
      · exact .inr ⟨g2 h5, _, hnl, rfl⟩
  · rintro j1 Z
    have j1 : (partsL 1 x).all (fun y => y.1.no == wantF o y.1) = true := j1
    rw [partsL_all (fun y => y.no == wantF o y)] at j1
    have j1 : resdF o x = true := j1
    simp (disch := omega) only [go_sem, seval]
    refine bCode_ok (B := h.length) _ _ _ _ (by kernel_rfl) ?_
    simp (disch := omega) only [go_sem, seval, List.append_assoc, List.cons_append, List.nil_append]
    rw [j1, hK]
    simp
  · rintro dn y r' hdy hr Z
    refine aCode_ok Ty.mixed _ _ _ _ (by kernel_rfl) ?_
    simp (disch := omega) only [go_sem, seval, List.append_assoc, List.cons_append, List.nil_append]
    rw [hr, hK]
    simp
theorem resd_app (o : List Tx) : ∀ (i : Int) (a b : List Rl), resdRs o i (a ++ b) = (resdRs o i a && resdRs o (i + a.length) b)
  | i, [], b => by simp [resdRs]
  | i, x :: a, b => by rw [List.cons_append, resdRs, resdRs, resd_app o (i + 1) a b, List.length_cons, show i + 1 + (a.length : Int) = i + ((a.length + 1 : Nat) : Int) by omega]; simp only [Bool.and_assoc]
set_option maxHeartbeats 1600000 in
set_option maxRecDepth 100000 in
theorem pcheck_calls (Γ : Nat → Option (List AV)) (hΓ : Γ 0 = some kindsC) (p : Pol) (h : AH) (hs : ShP p) (hsz : ∀ x ∈ exprs p, sizeX x ≤ 1000) (hrl : p.rules.length ≤ 1000000) :
    ACalls Tryz.prog Γ 29 [encPol p] h fun v h' => h' = h ∧ v = .int .i64 (checkF p) := by
  refine ACalls.drop ?_
  refine acalls_code (rs := [.tmp 2]) Tryz.func29 rfl rfl rfl rfl Ty.mixed (by kernel_rfl) ?_
  have c1 := fun h => presolveP_calls Γ hΓ p h hs hsz hrl
  have c2 := fun x h hx hl => presolved_calls Γ p.offices x h hs.offices hx hl
  have hr := hs.rules
  have hd : checkF p = if errF p = 0 then (if (resdRs p.offices 0 p.rules && resdF p.offices p.change) = true then 0 else 200) else errF p := rfl
  rw [encPol_eq] at c1 ⊢
  simp (disch := omega) only [go_sem, seval]
  refine (c1 _).mono fun v h' ⟨e1, q, e2⟩ => ?_
  subst e1 e2
  rw [encPol_eq]
  simp (disch := omega) only [go_sem, seval]
  refine aIf.intro (fun h1 => ?_) (fun h1 => ?_) <;> simp (disch := omega) only [go_sem, seval]
  rotate_left
  · rw [hd, if_neg h1]
  rw [if_pos h1] at hd
  refine awp_loopL (β := AH) p.rules [1, 2, 14, 15, 16] (fun don _ => [(1, .ptr (some (h.length, 0))), (2, .int .i64 (errF p)), (14, .sl (p.rules.map encRl) .free), (15, .int .i64 p.rules.length), (16, .int .i64 don.length)]) (fun b => h ++ .row [.str ⟨⟨p.name⟩⟩, .sl (encT p.kinds) .free, .sl (encT p.offices) .free, .sl (p.rules.map encRl) .free, .int .i64 p.change.k, .int .i64 p.change.n, .int .i64 p.change.no, .str ⟨⟨p.change.name⟩⟩, .sl (p.change.l.map encX) .free, .int .i64 p.mode] 37 :: b) (fun don _ b => resdRs p.offices 0 don = true) [] ?_ rfl rfl Ty.mixed (by kernel_rfl) ?_ ?_
  · simp (disch := omega) only [go_sem, seval, List.length_nil, List.length_map]
  · rintro don x r j hdn hp
    have hlen : p.rules.length = don.length + 1 + r.length := by rw [hdn]; simp; omega
    have e1 : (p.rules.map encRl)[don.length]? = some (encRl x) := by rw [hdn]; exact rowMid ..
    have hx : x ∈ p.rules := by rw [hdn]; simp
    have c6 := fun h => c2 x.x h (hs.rulesX x hx) (hsz x.x (List.mem_append_left _ (List.mem_map.2 ⟨x, hx, rfl⟩)))
    have hrs : resdRs p.offices 0 p.rules = ((x.kno == (don.length : Int) && resdF p.offices x.x) && resdRs p.offices (0 + don.length + 1) r) := by
      rw [hdn, resd_app, hp, Bool.true_and, resdRs, Int.zero_add]
    have hnx : resdRs p.offices 0 (don ++ [x]) = (x.kno == (don.length : Int) && resdF p.offices x.x) := by
      rw [resd_app, hp, Bool.true_and, resdRs, Int.zero_add, resdRs, Bool.and_true]
    rw [encX_eq x.x] at c6
    rw [encRl_eq] at e1
    simp (disch := omega) only [go_sem, seval, List.length_map]
    refine aIf.pos (by omega) ?_
    simp (disch := omega) only [go_sem, seval, e1]
    refine aIf.intro (fun h5 => ?_) (fun h5 => ?_) <;> simp (disch := omega) only [go_sem, seval]
    · refine ACalls.det (c6 _) ?_
      rw [← h5, beq_self_eq_true, Bool.true_and] at hrs hnx
      cases hb : resdF p.offices x.x <;> rw [hb] at hrs hnx <;> simp (disch := omega) only [go_sem, seval]
      · rw [hd, hrs]; rfl
      · refine roundL_next (j ++ [.row [.str ⟨⟨x.kind⟩⟩, .int .i64 x.kno, .int .i64 x.think, .int .i64 x.x.k, .int .i64 x.x.n, .int .i64 x.x.no, .str ⟨⟨x.x.name⟩⟩, .sl (x.x.l.map encX) .free] 60]) ?_ ?_ ?_
        · exact hnx
        · simp (disch := omega) only [go_sem, seval, List.length_append]
        · simp
    · rw [hd, hrs, beq_eq_false_iff_ne.2 h5]; rfl
  · rintro j hp
    simp (disch := omega) only [go_sem, seval, List.length_map]
    refine AWP.keep [1, 2] (aCode_ok Ty.mixed _ _ _ _ (by kernel_rfl) ?_)
    simp (disch := omega) only [go_sem, seval]
    have c7 := fun h => c2 p.change h hs.change (hsz p.change (List.mem_append_right _ (by simp)))
    rw [encX_eq p.change] at c7
    refine ACalls.det (c7 _) ?_
    rw [hp, Bool.true_and] at hd
    cases hb : resdF p.offices p.change <;> rw [hb] at hd <;> simp (disch := omega) only [go_sem, seval]
    · rw [hd]; rfl
    · rw [hd]; rfl
end Go.Proofs.YtjdhgaflenhljaaGreatDoor
