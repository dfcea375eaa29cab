/- Texts joined: PolE, PolF, PolG, PolH, PolI, PolJ. No conditions. -/
import Derived.Test.YtjdhgaflenhljaaGreatDoorMrEA
/- The reference's Index, Parts, Depth, large. No conditions. -/
set_option linter.unusedSimpArgs false
set_option linter.unusedVariables false
namespace Go.Proofs.YtjdhgaflenhljaaGreatDoor
open Go Go.Proofs Go.Abs

theorem encT_get (don r : List Tx) (x : Tx) : (encT (don ++ x :: r))[don.length]? = some (.str ⟨⟨x⟩⟩) := by simp [encT]
/-- Lists fit, numbers fit. -/
inductive ShX : Ex → Prop
  | mk {k n no : Int} {s : Tx} {l : List Ex} (h1 : l.length ≤ 9223372036854775807) (h2 : ∀ x ∈ l, ShX x) (h3 : s.length ≤ 9223372036854775807) (h4 : -9223372036854775808 ≤ n) (h5 : n ≤ 9223372036854775807) : ShX (.mk k n no s l)
theorem ShX.len {k n no : Int} {s : Tx} {l : List Ex} (h : ShX (.mk k n no s l)) : l.length ≤ 9223372036854775807 := by cases h; assumption
theorem ShX.mem {k n no : Int} {s : Tx} {l : List Ex} (h : ShX (.mk k n no s l)) : ∀ x ∈ l, ShX x := by cases h; assumption
theorem len_mid {α : Type} {don r : List α} {x : α} {k : Nat} (h : (don ++ x :: r).length ≤ k) : don.length + 1 + r.length ≤ k := by simp at h; omega
theorem rowMid {α : Type} (f : α → AV) (don r : List α) (x : α) : ((don ++ x :: r).map f)[don.length]? = some (f x) := by simp
set_option maxRecDepth 100000 in
theorem rindex_calls (Γ : Nat → Option (List AV)) (l : List Tx) (s : Tx) (h : AH) (hl : l.length ≤ 9223372036854775807) : ACalls Tryz.prog Γ 94 [.sl (encT l) .free, .str ⟨⟨s⟩⟩] h fun v h' => h' = h ∧ v = .int .i64 (idxT l s) := by
  refine ACalls.drop ?_
  refine acalls_code (rs := [.tmp 4]) Tryz.func94 rfl rfl rfl rfl Ty.mixed (by kernel_rfl) ?_
  simp (disch := omega) only [go_sem, seval]
  refine awp_loopL (β := Unit) l [0, 1, 5] (fun don _ => [(0, .sl (encT l) .free), (1, .str ⟨⟨s⟩⟩), (5, .int .i64 don.length)]) (fun _ => h) (fun don _ _ => ∀ y ∈ don, (y == s) = false) () ?_ rfl (by simp) Ty.mixed (by kernel_rfl) ?_ ?_
  · simp (disch := omega) only [go_sem, seval, List.length_nil]
  · rintro don x r _ hd hp
    have hlen : l.length = don.length + 1 + r.length := by rw [hd]; simp; omega
    have e1 : (encT l)[don.length]? = some (.str ⟨⟨x⟩⟩) := by rw [hd]; exact encT_get don r x
    simp (disch := omega) only [go_sem, seval, encT_len]
    refine aIf.pos (by omega) ?_
    simp (disch := omega) only [go_sem, seval, e1, str_list, str_listA]
    cases hx : (x == s) <;> simp (disch := omega) only [go_sem, seval]
    · refine roundL_next () ?_ ?_ rfl
      · intro z hz
        rcases List.mem_append.1 hz with hz | hz
        · exact hp z hz
        · simp at hz; subst hz; exact hx
      · simp (disch := omega) only [go_sem, seval, List.length_append]
    · rw [hd, idx_at hp hx]
  · rintro _ hp
    simp (disch := omega) only [go_sem, seval, encT_len]
    refine AWP.keep [] (aCode_ok Ty.mixed _ _ _ _ (by kernel_rfl) ?_)
    simp (disch := omega) only [go_sem, seval]
    rw [idx_no hp]
set_option maxRecDepth 100000 in
theorem rparts_calls_k (Γ : Nat → Option (List AV)) : ∀ (m : Nat) (x : Ex) (lim : Nat) (h : AH), SizeOf.sizeOf x < m → ShX x → lim ≤ 1000000 → ACalls Tryz.prog Γ 41 [encX x, .int .i64 lim] h fun v h' => h' = h ∧ v = .int .i64 (min (sizeX x) (lim + 1) : Nat)
  | 0, _, _, _, hk, _, _ => absurd hk (Nat.not_lt_zero _)
  | m + 1, .mk k n no s l, lim, h, hsz, hs, hlim => by
    refine ACalls.drop ?_
    refine acalls_code (rs := [.tmp 4]) Tryz.func41 rfl rfl rfl rfl Ty.mixed (by kernel_rfl) ?_
    simp only [encX_mk]
    simp (disch := omega) only [go_sem, seval]
    have hl1 := hs.len
    refine awp_loopL (β := Unit) l [1, 2, 5, 6] (fun don _ => [(1, .int .i64 lim), (2, .ptr (some (h.length, 0))), (5, .int .i64 (min (sizeXs don + 1) (lim + 1) : Nat)), (6, .int .i64 don.length)]) (fun _ => h ++ [.row [.int .i64 k, .int .i64 n, .int .i64 no, .str ⟨⟨s⟩⟩, .sl (l.map encX) .free] 35]) (fun _ _ _ => True) () ?_ rfl trivial Ty.mixed (by kernel_rfl) ?_ ?_
    · simp (disch := omega) only [go_sem, seval, List.length_nil, sizeXs]
      simp
    · rintro don x r _ hd _
      have hlen : l.length = don.length + 1 + r.length := by rw [hd]; simp; omega
      have e1 : (l.map encX)[don.length]? = some (encX x) := by rw [hd]; exact rowMid ..
      simp (disch := omega) only [go_sem, seval, List.length_map]
      refine aIf.pos (by omega) ?_
      simp (disch := omega) only [go_sem, seval]
      have hb := sizeXs_app don [x]
      simp only [sizeXs, Nat.add_zero] at hb
      have hb2 : sizeXs l = sizeXs don + (sizeX x + sizeXs r) := by rw [hd, sizeXs_app, sizeXs]
      have hp := size_pos x
      refine aIf.intro (fun hc => ?_) (fun hc => ?_) <;> simp (disch := omega) only [go_sem, seval, e1]
      · refine ACalls.det ((rparts_calls_k Γ m x (lim - (sizeXs don + 1)) _ (memX_sz (by rw [hd]; simp) hsz) (hs.mem x (by rw [hd]; simp)) (by omega)).args (by rw [show ((lim - (sizeXs don + 1) : Nat) : Int) = lim - (min (sizeXs don + 1) (lim + 1) : Nat) by omega])) ?_
        simp (disch := omega) only [go_sem, seval]
        refine roundL_next () trivial ?_ rfl
        simp (disch := omega) only [go_sem, seval, List.length_append, hb]
        rw [show (((min (sizeXs don + 1) (lim + 1) : Nat) : Int) + ((min (sizeX x) (lim - (sizeXs don + 1) + 1) : Nat) : Int)) = ((min (sizeXs don + sizeX x + 1) (lim + 1) : Nat) : Int) by omega]
      · refine AWP.keep [5] (aCode_ok Ty.mixed _ _ _ _ (by kernel_rfl) ?_)
        simp (disch := omega) only [go_sem, seval]
        rw [sizeX]
        congr 1
        omega
    · rintro _ _
      simp (disch := omega) only [go_sem, seval, List.length_map]
      refine AWP.keep [5] (aCode_ok Ty.mixed _ _ _ _ (by kernel_rfl) ?_)
      simp (disch := omega) only [go_sem, seval]
      rw [sizeX]
theorem rparts_calls (Γ : Nat → Option (List AV)) (x : Ex) (lim : Nat) (h : AH) (hs : ShX x) (hlim : lim ≤ 1000000) : ACalls Tryz.prog Γ 41 [encX x, .int .i64 lim] h fun v h' => h' = h ∧ v = .int .i64 (min (sizeX x) (lim + 1) : Nat) :=
  rparts_calls_k Γ _ x lim h (Nat.lt_succ_self _) hs hlim
set_option maxRecDepth 100000 in
theorem rdepth_calls_k (Γ : Nat → Option (List AV)) : ∀ (m : Nat) (x : Ex) (h : AH), SizeOf.sizeOf x < m → ShX x → sizeX x ≤ 1000000 → ACalls Tryz.prog Γ 96 [encX x] h fun v h' => h' = h ∧ v = .int .i64 (depthX x)
  | 0, _, _, hk, _, _ => absurd hk (Nat.not_lt_zero _)
  | m + 1, .mk k n no s l, h, hsz, hs, hlim => by
    refine ACalls.drop ?_
    refine acalls_code (rs := [.tmp 2]) Tryz.func96 rfl rfl rfl rfl Ty.mixed (by kernel_rfl) ?_
    simp only [encX_mk]
    simp (disch := omega) only [go_sem, seval]
    have hl1 := hs.len
    rw [sizeX] at hlim
    have hdl := depths_size l
    refine awp_loopL (β := Unit) l [1, 3, 4] (fun don _ => [(1, .ptr (some (h.length, 0))), (3, .int .i64 (depthXs don)), (4, .int .i64 don.length)]) (fun _ => h ++ [.row [.int .i64 k, .int .i64 n, .int .i64 no, .str ⟨⟨s⟩⟩, .sl (l.map encX) .free] 35]) (fun _ _ _ => True) () ?_ rfl trivial Ty.mixed (by kernel_rfl) ?_ ?_
    · simp (disch := omega) only [go_sem, seval, List.length_nil, depthXs]
    · rintro don x r _ hd _
      have hlen : l.length = don.length + 1 + r.length := by rw [hd]; simp; omega
      have e1 : (l.map encX)[don.length]? = some (encX x) := by rw [hd]; exact rowMid ..
      have hx : x ∈ l := by rw [hd]; simp
      have hb := size_mem hx
      simp (disch := omega) only [go_sem, seval, List.length_map]
      refine aIf.pos (by omega) ?_
      simp (disch := omega) only [go_sem, seval, e1]
      refine ACalls.det (rdepth_calls_k Γ m x _ (memX_sz hx hsz) (hs.mem x hx) (by omega)) ?_
      simp (disch := omega) only [go_sem, seval]
      refine roundL_next () trivial ?_ rfl
      simp (disch := omega) only [go_sem, seval, List.length_append, depthXs_app, depthXs]
      rw [show (if ((depthXs don : Nat) : Int) < ((depthX x : Nat) : Int) then ((depthX x : Nat) : Int) else ((depthXs don : Nat) : Int)) = ((max (depthXs don) (max (depthX x) 0) : Nat) : Int) by split <;> omega]
    · rintro _ _
      simp (disch := omega) only [go_sem, seval, List.length_map]
      refine AWP.keep [3] (aCode_ok Ty.mixed _ _ _ _ (by kernel_rfl) ?_)
      simp (disch := omega) only [go_sem, seval]
      rw [depthX]
      rfl
theorem rdepth_calls (Γ : Nat → Option (List AV)) (x : Ex) (h : AH) (hs : ShX x) (hl : sizeX x ≤ 1000000) : ACalls Tryz.prog Γ 96 [encX x] h fun v h' => h' = h ∧ v = .int .i64 (depthX x) :=
  rdepth_calls_k Γ _ x h (Nat.lt_succ_self _) hs hl
set_option maxRecDepth 100000 in
theorem rlarge_calls (Γ : Nat → Option (List AV)) (x : Ex) (h : AH) (hs : ShX x) : ACalls Tryz.prog Γ 89 [encX x] h fun v h' => h' = h ∧ v = .bool (largeF x) := by
  refine ACalls.drop ?_
  refine acalls_code (rs := [.tmp 2]) Tryz.func89 rfl rfl rfl rfl Ty.mixed (by kernel_rfl) ?_
  have c1 := fun h => rparts_calls Γ x 256 h hs (by omega)
  have c2 := fun h hl => rdepth_calls Γ x h hs hl
  have hd : largeF x = (decide (256 < sizeX x) || decide (16 < depthX x)) := rfl
  cases x with | mk k n no s l =>
  simp only [encX_mk] at c1 c2 ⊢
  simp (disch := omega) only [go_sem, seval]
  refine ACalls.det ((c1 _).args (by simp)) ?_
  simp (disch := omega) only [go_sem, seval]
  refine aIf.intro (fun h1 => ?_) (fun h1 => ?_) <;> simp (disch := omega) only [go_sem, seval]
  · rw [hd, decide_eq_true (p := 256 < _) (by omega)]; rfl
  · refine ACalls.det (c2 _ (by omega)) ?_
    simp (disch := omega) only [go_sem, seval]
    rw [hd, decide_eq_false (p := 256 < _) (by omega), Bool.false_or]
    congr 1
    exact decide_eq_decide.2 (by omega)
end Go.Proofs.YtjdhgaflenhljaaGreatDoor

/- The reference's tooLarge, distinct, named, names. No conditions. -/
set_option linter.unusedSimpArgs false
set_option linter.unusedVariables false
namespace Go.Proofs.YtjdhgaflenhljaaGreatDoor
open Go Go.Proofs Go.Abs

structure ShP (p : Pol) : Prop where
  name : p.name.length ≤ 9223372036854775807
  kinds : p.kinds.length ≤ 9223372036854775807
  kindsT : ∀ s ∈ p.kinds, s.length ≤ 9223372036854775807
  offices : p.offices.length ≤ 9223372036854775807
  officesT : ∀ s ∈ p.offices, s.length ≤ 9223372036854775807
  rules : p.rules.length ≤ 9223372036854775807
  rulesX : ∀ r ∈ p.rules, ShX r.x
  rulesK : ∀ r ∈ p.rules, r.kind.length ≤ 9223372036854775807
  change : ShX p.change
/-- A policy's cells, its expression's one by one. -/
def chC (x : Ex) : List AV := [.int .i64 x.k, .int .i64 x.n, .int .i64 x.no, .str ⟨⟨x.name⟩⟩, .sl (x.l.map encX) .free]
theorem encX_chC (x : Ex) : encX x = .agg (chC x) := by cases x; simp [encX_mk, chC, Ex.k, Ex.n, Ex.no, Ex.name, Ex.l]
theorem encPol_eq (p : Pol) : encPol p = .agg [.str ⟨⟨p.name⟩⟩, .sl (encT p.kinds) .free, .sl (encT p.offices) .free, .sl (p.rules.map encRl) .free, .int .i64 p.change.k, .int .i64 p.change.n, .int .i64 p.change.no, .str ⟨⟨p.change.name⟩⟩, .sl (p.change.l.map encX) .free, .int .i64 p.mode] := by
  simp [encPol, polC, encX_chC, chC, AV.cells]
theorem encRl_eq (r : Rl) : encRl r = .agg [.str ⟨⟨r.kind⟩⟩, .int .i64 r.kno, .int .i64 r.think, .int .i64 r.x.k, .int .i64 r.x.n, .int .i64 r.x.no, .str ⟨⟨r.x.name⟩⟩, .sl (r.x.l.map encX) .free] := by
  simp [encRl, encX_chC, chC, AV.cells]
theorem encX_eq (x : Ex) : encX x = .agg [.int .i64 x.k, .int .i64 x.n, .int .i64 x.no, .str ⟨⟨x.name⟩⟩, .sl (x.l.map encX) .free] := encX_chC x
set_option maxRecDepth 100000 in
theorem rtooLarge_calls (Γ : Nat → Option (List AV)) (p : Pol) (h : AH) (hs : ShP p) : ACalls Tryz.prog Γ 75 [encPol p] h fun v h' => h' = h ∧ v = .bool (!sizedF p) := by
  refine ACalls.drop ?_
  refine acalls_code (rs := [.tmp 2]) Tryz.func75 rfl rfl rfl rfl Ty.mixed (by kernel_rfl) ?_
  have c1 := fun h => rlarge_calls Γ p.change h hs.change
  have hk := hs.kinds
  have ho := hs.offices
  have hr := hs.rules
  have hd : (!sizedF p) = !(decide (p.offices.length ≤ 32 ∧ p.kinds.length ≤ 16 ∧ p.rules.length ≤ 16) && ((p.rules.map Rl.x).all (fun x => !largeF x) && !largeF p.change)) := by simp [sizedF, exprs]
  rw [encPol_eq]
  rw [encX_eq] at c1
  simp (disch := omega) only [go_sem, seval, encT_len, List.length_map]
  refine aIf.intro (fun h1 => ?_) (fun h1 => ?_) <;> simp (disch := omega) only [go_sem, seval, encT_len, List.length_map]
  · rw [hd, decide_eq_false (by omega)]; rfl
  refine aIf.intro (fun h2 => ?_) (fun h2 => ?_) <;> simp (disch := omega) only [go_sem, seval, encT_len, List.length_map]
  · rw [hd, decide_eq_false (by omega)]; rfl
  refine aIf.intro (fun h3 => ?_) (fun h3 => ?_) <;> simp (disch := omega) only [go_sem, seval, encT_len, List.length_map]
  · rw [hd, decide_eq_false (by omega)]; rfl
  rw [decide_eq_true (by omega), Bool.true_and] at hd
  refine ACalls.det (c1 _) ?_
  simp (disch := omega) only [go_sem, seval]
  cases hc : largeF p.change <;> rw [hc] at hd <;> simp (disch := omega) only [go_sem, seval]
  · refine awp_loopL (β := Unit) p.rules [1, 3] (fun don _ => [(1, .ptr (some (h.length, 0))), (3, .int .i64 don.length)]) (fun _ => h ++ [.row [.str ⟨⟨p.name⟩⟩, .sl (encT p.kinds) .free, .sl (encT p.offices) .free, .sl (p.rules.map encRl) .free, .int .i64 p.change.k, .int .i64 p.change.n, .int .i64 p.change.no, .str ⟨⟨p.change.name⟩⟩, .sl (p.change.l.map encX) .free, .int .i64 p.mode] 37]) (fun don _ _ => ∀ r ∈ don, largeF r.x = false) () ?_ rfl (by simp) Ty.mixed (by kernel_rfl) ?_ ?_
    · simp (disch := omega) only [go_sem, seval]
    · rintro don x r _ hdn hp
      have hlen : p.rules.length = don.length + 1 + r.length := by rw [hdn]; simp; omega
      have e1 : (p.rules.map encRl)[don.length]? = some (encRl x) := by rw [hdn]; exact rowMid ..
      have hx : x ∈ p.rules := by rw [hdn]; simp
      have c2 := fun h => rlarge_calls Γ x.x h (hs.rulesX x hx)
      rw [encX_eq] at c2
      rw [encRl_eq] at e1
      simp (disch := omega) only [go_sem, seval, List.length_map]
      refine aIf.pos (by omega) ?_
      simp (disch := omega) only [go_sem, seval, e1]
      refine ACalls.det (c2 _) ?_
      simp (disch := omega) only [go_sem, seval]
      cases hl : largeF x.x <;> simp (disch := omega) only [go_sem, seval]
      · refine roundL_next () ?_ ?_ rfl
        · intro z hz
          rcases List.mem_append.1 hz with hz | hz
          · exact hp z hz
          · simp at hz; subst hz; exact hl
        · simp (disch := omega) only [go_sem, seval, List.length_append]
      · rw [hd]
        have : (p.rules.map Rl.x).all (fun x => !largeF x) = false := by
          rw [hdn, List.map_append, List.all_append, List.map_cons, List.all_cons, hl]; simp
        rw [this]; rfl
    · rintro _ hp
      simp (disch := omega) only [go_sem, seval, List.length_map]
      refine AWP.keep [] (aCode_ok Ty.mixed _ _ _ _ (by kernel_rfl) ?_)
      simp (disch := omega) only [go_sem, seval]
      rw [hd]
      have : (p.rules.map Rl.x).all (fun x => !largeF x) = true := by
        rw [List.all_eq_true]
        intro y hy
        obtain ⟨r, hr, rfl⟩ := List.mem_map.1 hy
        rw [hp r hr]; rfl
      rw [this]; rfl
  · rw [hd]; simp
set_option maxRecDepth 100000 in
theorem rdistinct_calls (Γ : Nat → Option (List AV)) (l : List Tx) (h : AH) (hl : l.length ≤ 9223372036854775807) (ht : ∀ s ∈ l, s.length ≤ 9223372036854775807) : ACalls Tryz.prog Γ 91 [.sl (encT l) .free] h fun v h' => h' = h ∧ v = .bool (distT l) := by
  refine ACalls.drop ?_
  refine acalls_code (rs := [.tmp 2]) Tryz.func91 rfl rfl rfl rfl Ty.mixed (by kernel_rfl) ?_
  simp (disch := omega) only [go_sem, seval]
  refine awp_loopL (β := Unit) l [0, 3] (fun don _ => [(0, .sl (encT l) .free), (3, .int .i64 don.length)]) (fun _ => h) (fun don r _ => distT l = distS don r) () ?_ rfl rfl Ty.mixed (by kernel_rfl) ?_ ?_
  · simp (disch := omega) only [go_sem, seval, List.length_nil]
  · rintro don x r _ hd hp
    have hlen : l.length = don.length + 1 + r.length := by rw [hd]; simp; omega
    have e1 : (encT l)[don.length]? = some (.str ⟨⟨x⟩⟩) := by rw [hd]; exact encT_get don r x
    have hx : x ∈ l := by rw [hd]; simp
    rw [hp, distS]
    simp (disch := omega) only [go_sem, seval, encT_len]
    refine aIf.pos (by omega) ?_
    simp (disch := omega) only [go_sem, seval, e1]
    refine ACalls.det (rfree_calls Γ x _ (ht x hx)) ?_
    simp (disch := omega) only [go_sem, seval]
    cases hf : freeL x <;> simp (disch := omega) only [go_sem, seval, e1]
    refine ACalls.det (rindex_calls Γ l x _ hl) ?_
    simp (disch := omega) only [go_sem, seval]
    refine aIf.intro (fun hc => ?_) (fun hc => ?_) <;> simp (disch := omega) only [go_sem, seval]
    · refine roundL_next () ?_ ?_ rfl
      · rw [← hd, hc]; simp
      · simp (disch := omega) only [go_sem, seval, List.length_append]
    · rw [← hd, beq_eq_false_iff_ne.2 hc]; rfl
  · rintro _ hp
    simp (disch := omega) only [go_sem, seval, encT_len]
    refine AWP.keep [] (aCode_ok Ty.mixed _ _ _ _ (by kernel_rfl) ?_)
    simp (disch := omega) only [go_sem, seval]
    rw [hp]; rfl
set_option maxRecDepth 100000 in
theorem rnamed_calls_k (Γ : Nat → Option (List AV)) (o : List Tx) (ho : o.length ≤ 9223372036854775807) : ∀ (m : Nat) (x : Ex) (h : AH), SizeOf.sizeOf x < m → ShX x → ACalls Tryz.prog Γ 92 [.sl (encT o) .free, encX x] h fun v h' => h' = h ∧ v = .bool (allX (namedF o) x)
  | 0, _, _, hk, _ => absurd hk (Nat.not_lt_zero _)
  | m + 1, .mk k n no s l, h, hsz, hs => by
    refine ACalls.drop ?_
    refine acalls_code (rs := [.tmp 4]) Tryz.func92 rfl rfl rfl rfl Ty.mixed (by kernel_rfl) ?_
    simp only [encX_mk]
    simp (disch := omega) only [go_sem, seval]
    have hl1 := hs.len
    rw [allX, allXs_all]
    have hd : namedF o (.mk k n no s l) = (!(k == 1 || k == 2) || decide (0 ≤ idxT o s)) := rfl
    rw [hd]
    refine aIf.intro (fun h1 => ?_) (fun h1 => ?_) <;> simp (disch := omega) only [go_sem, seval]
    · refine ACalls.det (rindex_calls Γ o s _ ho) ?_
      simp (disch := omega) only [go_sem, seval]
      refine aIf.intro (fun h2 => ?_) (fun h2 => ?_) <;> simp (disch := omega) only [go_sem, seval]
      · rw [decide_eq_false (p := 0 ≤ _) (by omega), h1]; rfl
      rw [decide_eq_true (p := 0 ≤ _) (by omega), Bool.or_true] at hd ⊢
      refine awp_loopL (β := Unit) l [0, 3, 5] (fun don _ => [(0, .sl (encT o) .free), (3, .ptr (some (h.length, 0))), (5, .int .i64 don.length)]) (fun _ => h ++ [.row [.int .i64 k, .int .i64 n, .int .i64 no, .str ⟨⟨s⟩⟩, .sl (l.map encX) .free] 35]) (fun don _ _ => don.all (allX (namedF o)) = true) () ?_ rfl rfl Ty.mixed (by kernel_rfl) ?_ ?_
      · simp (disch := omega) only [go_sem, seval]
      · rintro don x r _ hdn hp
        have hlen : l.length = don.length + 1 + r.length := by rw [hdn]; simp; omega
        have e1 : (l.map encX)[don.length]? = some (encX x) := by rw [hdn]; exact rowMid ..
        have hx : x ∈ l := by rw [hdn]; simp
        simp (disch := omega) only [go_sem, seval, List.length_map]
        refine aIf.pos (by omega) ?_
        simp (disch := omega) only [go_sem, seval, e1]
        refine ACalls.det (rnamed_calls_k Γ o ho m x _ (memX_sz hx hsz) (hs.mem x hx)) ?_
        simp (disch := omega) only [go_sem, seval]
        cases hl : allX (namedF o) x <;> simp (disch := omega) only [go_sem, seval]
        · have : l.all (allX (namedF o)) = false := by rw [hdn, List.all_append, List.all_cons, hl]; simp
          simp [this]
        · refine roundL_next () (by rw [List.all_append, hp, List.all_cons, hl]; rfl) ?_ rfl
          simp (disch := omega) only [go_sem, seval, List.length_append]
      · rintro _ hp
        simp (disch := omega) only [go_sem, seval, List.length_map]
        refine AWP.keep [] (aCode_ok Ty.mixed _ _ _ _ (by kernel_rfl) ?_)
        simp (disch := omega) only [go_sem, seval]
        rw [hp]
    · refine aIf.intro (fun h3 => ?_) (fun h3 => ?_) <;> simp (disch := omega) only [go_sem, seval]
      · refine ACalls.det (rindex_calls Γ o s _ ho) ?_
        simp (disch := omega) only [go_sem, seval]
        refine aIf.intro (fun h2 => ?_) (fun h2 => ?_) <;> simp (disch := omega) only [go_sem, seval]
        · rw [decide_eq_false (p := 0 ≤ _) (by omega), h3]; rfl
        rw [decide_eq_true (p := 0 ≤ _) (by omega), Bool.or_true] at hd ⊢
        refine awp_loopL (β := Unit) l [0, 3, 5] (fun don _ => [(0, .sl (encT o) .free), (3, .ptr (some (h.length, 0))), (5, .int .i64 don.length)]) (fun _ => h ++ [.row [.int .i64 k, .int .i64 n, .int .i64 no, .str ⟨⟨s⟩⟩, .sl (l.map encX) .free] 35]) (fun don _ _ => don.all (allX (namedF o)) = true) () ?_ rfl rfl Ty.mixed (by kernel_rfl) ?_ ?_
        · simp (disch := omega) only [go_sem, seval]
        · rintro don x r _ hdn hp
          have hlen : l.length = don.length + 1 + r.length := by rw [hdn]; simp; omega
          have e1 : (l.map encX)[don.length]? = some (encX x) := by rw [hdn]; exact rowMid ..
          have hx : x ∈ l := by rw [hdn]; simp
          simp (disch := omega) only [go_sem, seval, List.length_map]
          refine aIf.pos (by omega) ?_
          simp (disch := omega) only [go_sem, seval, e1]
          refine ACalls.det (rnamed_calls_k Γ o ho m x _ (memX_sz hx hsz) (hs.mem x hx)) ?_
          simp (disch := omega) only [go_sem, seval]
          cases hl : allX (namedF o) x <;> simp (disch := omega) only [go_sem, seval]
          · have : l.all (allX (namedF o)) = false := by rw [hdn, List.all_append, List.all_cons, hl]; simp
            simp [this]
          · refine roundL_next () (by rw [List.all_append, hp, List.all_cons, hl]; rfl) ?_ rfl
            simp (disch := omega) only [go_sem, seval, List.length_append]
        · rintro _ hp
          simp (disch := omega) only [go_sem, seval, List.length_map]
          refine AWP.keep [] (aCode_ok Ty.mixed _ _ _ _ (by kernel_rfl) ?_)
          simp (disch := omega) only [go_sem, seval]
          rw [hp]
      · have hf : (k == 1 || k == 2) = false := by simp [h1, h3]
        rw [hf, Bool.not_false, Bool.true_or] at hd ⊢
        refine awp_loopL (β := Unit) l [0, 3, 5] (fun don _ => [(0, .sl (encT o) .free), (3, .ptr (some (h.length, 0))), (5, .int .i64 don.length)]) (fun _ => h ++ [.row [.int .i64 k, .int .i64 n, .int .i64 no, .str ⟨⟨s⟩⟩, .sl (l.map encX) .free] 35]) (fun don _ _ => don.all (allX (namedF o)) = true) () ?_ rfl rfl Ty.mixed (by kernel_rfl) ?_ ?_
        · simp (disch := omega) only [go_sem, seval]
        · rintro don x r _ hdn hp
          have hlen : l.length = don.length + 1 + r.length := by rw [hdn]; simp; omega
          have e1 : (l.map encX)[don.length]? = some (encX x) := by rw [hdn]; exact rowMid ..
          have hx : x ∈ l := by rw [hdn]; simp
          simp (disch := omega) only [go_sem, seval, List.length_map]
          refine aIf.pos (by omega) ?_
          simp (disch := omega) only [go_sem, seval, e1]
          refine ACalls.det (rnamed_calls_k Γ o ho m x _ (memX_sz hx hsz) (hs.mem x hx)) ?_
          simp (disch := omega) only [go_sem, seval]
          cases hl : allX (namedF o) x <;> simp (disch := omega) only [go_sem, seval]
          · have : l.all (allX (namedF o)) = false := by rw [hdn, List.all_append, List.all_cons, hl]; simp
            simp [this]
          · refine roundL_next () (by rw [List.all_append, hp, List.all_cons, hl]; rfl) ?_ rfl
            simp (disch := omega) only [go_sem, seval, List.length_append]
        · rintro _ hp
          simp (disch := omega) only [go_sem, seval, List.length_map]
          refine AWP.keep [] (aCode_ok Ty.mixed _ _ _ _ (by kernel_rfl) ?_)
          simp (disch := omega) only [go_sem, seval]
          rw [hp]
theorem rnamed_calls (Γ : Nat → Option (List AV)) (o : List Tx) (x : Ex) (h : AH) (ho : o.length ≤ 9223372036854775807) (hs : ShX x) : ACalls Tryz.prog Γ 92 [.sl (encT o) .free, encX x] h fun v h' => h' = h ∧ v = .bool (allX (namedF o) x) :=
  rnamed_calls_k Γ o ho _ x h (Nat.lt_succ_self _) hs
set_option maxRecDepth 100000 in
theorem rnames_calls (Γ : Nat → Option (List AV)) (p : Pol) (h : AH) (hs : ShP p) : ACalls Tryz.prog Γ 76 [encPol p] h fun v h' => h' = h ∧ v = .bool (namesF p) := by
  refine ACalls.drop ?_
  refine acalls_code (rs := [.tmp 2]) Tryz.func76 rfl rfl rfl rfl Ty.mixed (by kernel_rfl) ?_
  have c1 := fun h => rnamed_calls Γ p.offices p.change h hs.offices hs.change
  have hr := hs.rules
  have hd : namesF p = (freeL p.name && distT p.offices && distT p.kinds && ((p.rules.map Rl.x).all (allX (namedF p.offices)) && allX (namedF p.offices) p.change)) := by simp [namesF, exprs]
  rw [encPol_eq]
  rw [encX_eq] at c1
  simp (disch := omega) only [go_sem, seval]
  refine ACalls.det (rfree_calls Γ p.name _ hs.name) ?_
  simp (disch := omega) only [go_sem, seval]
  cases h1 : freeL p.name <;> rw [h1] at hd <;> simp (disch := omega) only [go_sem, seval]
  · rw [hd]; rfl
  refine ACalls.det (rdistinct_calls Γ p.offices _ hs.offices hs.officesT) ?_
  simp (disch := omega) only [go_sem, seval]
  cases h2 : distT p.offices <;> rw [h2] at hd <;> simp (disch := omega) only [go_sem, seval]
  · rw [hd]; rfl
  refine ACalls.det (rdistinct_calls Γ p.kinds _ hs.kinds hs.kindsT) ?_
  simp (disch := omega) only [go_sem, seval]
  cases h3 : distT p.kinds <;> rw [h3] at hd <;> simp (disch := omega) only [go_sem, seval]
  · rw [hd]; rfl
  refine awp_loopL (β := Unit) p.rules [1, 3] (fun don _ => [(1, .ptr (some (h.length, 0))), (3, .int .i64 don.length)]) (fun _ => h ++ [.row [.str ⟨⟨p.name⟩⟩, .sl (encT p.kinds) .free, .sl (encT p.offices) .free, .sl (p.rules.map encRl) .free, .int .i64 p.change.k, .int .i64 p.change.n, .int .i64 p.change.no, .str ⟨⟨p.change.name⟩⟩, .sl (p.change.l.map encX) .free, .int .i64 p.mode] 37]) (fun don _ _ => (don.map Rl.x).all (allX (namedF p.offices)) = true) () ?_ rfl rfl Ty.mixed (by kernel_rfl) ?_ ?_
  · simp (disch := omega) only [go_sem, seval]
  · rintro don x r _ hdn hp
    have hlen : p.rules.length = don.length + 1 + r.length := by rw [hdn]; simp; omega
    have e1 : (p.rules.map encRl)[don.length]? = some (encRl x) := by rw [hdn]; exact rowMid ..
    have hx : x ∈ p.rules := by rw [hdn]; simp
    have c2 := fun h => rnamed_calls Γ p.offices x.x h hs.offices (hs.rulesX x hx)
    rw [encX_eq] at c2
    rw [encRl_eq] at e1
    simp (disch := omega) only [go_sem, seval, List.length_map]
    refine aIf.pos (by omega) ?_
    simp (disch := omega) only [go_sem, seval, e1]
    refine aCallF.intro (fun _ => c2 _) ?_
    simp (disch := omega) only [go_sem, seval]
    cases hl : allX (namedF p.offices) x.x <;> simp (disch := omega) only [go_sem, seval]
    · have : (p.rules.map Rl.x).all (allX (namedF p.offices)) = false := by
        rw [hdn, List.map_append, List.all_append, List.map_cons, List.all_cons, hl]; simp
      rw [hd, this]; rfl
    · refine roundL_next () ?_ ?_ rfl
      · rw [List.map_append, List.all_append, hp, List.map_cons, List.all_cons, hl]; rfl
      · simp (disch := omega) only [go_sem, seval, List.length_append]
  · rintro _ hp
    simp (disch := omega) only [go_sem, seval, List.length_map]
    refine AWP.keep [1] (aCode_ok Ty.mixed _ _ _ _ (by kernel_rfl) ?_)
    simp (disch := omega) only [go_sem, seval]
    refine ACalls.det (c1 _) ?_
    simp (disch := omega) only [go_sem, seval]
    rw [hd, hp]; rfl
end Go.Proofs.YtjdhgaflenhljaaGreatDoor

/- The reference's formedExpr, formed. No conditions. -/
set_option linter.unusedSimpArgs false
set_option linter.unusedVariables false
namespace Go.Proofs.YtjdhgaflenhljaaGreatDoor
open Go Go.Proofs Go.Abs

theorem nil_eq (s : Tx) : (s == []) = s.isEmpty := by cases s <;> rfl
set_option maxRecDepth 100000 in
theorem rformedX_calls_k (Γ : Nat → Option (List AV)) (u : Bool) : ∀ (m : Nat) (x : Ex) (h : AH), SizeOf.sizeOf x < m → ShX x → ACalls Tryz.prog Γ 93 [encX x, .bool u] h fun v h' => h' = h ∧ v = .bool (allX (formU u) x)
  | 0, _, _, hk, _ => absurd hk (Nat.not_lt_zero _)
  | m + 1, .mk k n no s l, h, hsz, hs => by
    refine ACalls.drop ?_
    refine acalls_code (rs := [.tmp 4]) Tryz.func93 rfl rfl rfl rfl Ty.mixed (by kernel_rfl) ?_
    simp only [encX_mk]
    simp (disch := omega) only [go_sem, seval]
    have hl1 := hs.len
    rw [allX, allXs_all]
    refine awp_loopL (β := Unit) l [1, 2, 5] (fun don _ => [(1, .bool u), (2, .ptr (some (h.length, 0))), (5, .int .i64 don.length)]) (fun _ => h ++ [.row [.int .i64 k, .int .i64 n, .int .i64 no, .str ⟨⟨s⟩⟩, .sl (l.map encX) .free] 35]) (fun don _ _ => don.all (allX (formU u)) = true) () ?_ rfl rfl Ty.mixed (by kernel_rfl) ?_ ?_
    · simp (disch := omega) only [go_sem, seval]
    · rintro don x r _ hdn hp
      have hlen : l.length = don.length + 1 + r.length := by rw [hdn]; simp; omega
      have e1 : (l.map encX)[don.length]? = some (encX x) := by rw [hdn]; exact rowMid ..
      have hx : x ∈ l := by rw [hdn]; simp
      simp (disch := omega) only [go_sem, seval, List.length_map]
      refine aIf.pos (by omega) ?_
      simp (disch := omega) only [go_sem, seval, e1]
      refine ACalls.det (rformedX_calls_k Γ u m x _ (memX_sz hx hsz) (hs.mem x hx)) ?_
      simp (disch := omega) only [go_sem, seval]
      cases hl : allX (formU u) x <;> simp (disch := omega) only [go_sem, seval]
      · have : l.all (allX (formU u)) = false := by rw [hdn, List.all_append, List.all_cons, hl]; simp
        simp [this]
      · refine roundL_next () (by rw [List.all_append, hp, List.all_cons, hl]; rfl) ?_ rfl
        simp (disch := omega) only [go_sem, seval, List.length_append]
    · rintro _ hp
      rw [hp, Bool.and_true]
      simp (disch := omega) only [go_sem, seval, List.length_map]
      refine AWP.keep [1, 2] (aCode_ok Ty.mixed _ _ _ _ (by kernel_rfl) ?_)
      simp (disch := omega) only [go_sem, seval]
      have hd : formU u (.mk k n no s l) = ((if k = 1 then decide (n = 0 ∧ l.length = 0)
  else if k = 2 then decide (1 ≤ n ∧ n ≤ 4096 ∧ l.length = 0)
  else if k = 3 then decide (s.length = 0 ∧ 1 ≤ l.length ∧ l.length ≤ 16 ∧ 1 ≤ n ∧ n ≤ l.length)
  else if k = 4 then decide (s.length = 0 ∧ l.length = 2 ∧ 0 ≤ n ∧ n ≤ 1099511627776)
  else false) && (u || !(k == 4))) := rfl
      rw [hd]
      refine aIf.intro (fun h1 => ?_) (fun h1 => ?_) <;> simp (disch := omega) only [go_sem, seval, List.length_map, str_list, str_listA]
      · simp only [h1, if_true, Bool.false_and, Bool.and_true, Bool.or_true, show ((1 : Int) == 4) = false from rfl, Bool.not_false]
        refine aIf.intro (fun h2 => ?_) (fun h2 => ?_) <;> simp (disch := omega) only [go_sem, seval, List.length_map]
        · congr 1; exact decide_eq_decide.2 (by omega)
        · rw [decide_eq_false (by omega)]
      simp only [if_neg h1]
      refine aIf.intro (fun h1 => ?_) (fun h1 => ?_) <;> simp (disch := omega) only [go_sem, seval, List.length_map, str_list, str_listA]
      · simp only [h1, if_true, Bool.false_and, Bool.and_true, Bool.or_true, show ((2 : Int) == 4) = false from rfl, Bool.not_false]
        refine aIf.intro (fun h2 => ?_) (fun h2 => ?_) <;> simp (disch := omega) only [go_sem, seval, List.length_map]
        · refine aIf.intro (fun h3 => ?_) (fun h3 => ?_) <;> simp (disch := omega) only [go_sem, seval, List.length_map]
          · congr 1; exact decide_eq_decide.2 (by omega)
          · rw [decide_eq_false (by omega)]
        · rw [decide_eq_false (by omega)]
      simp only [if_neg h1]
      refine aIf.intro (fun h1 => ?_) (fun h1 => ?_) <;> simp (disch := omega) only [go_sem, seval, List.length_map, str_list, str_listA]
      · simp only [h1, if_true, Bool.false_and, Bool.and_true, Bool.or_true, show ((3 : Int) == 4) = false from rfl, Bool.not_false]
        cases s with
        | cons b t =>
          simp (disch := omega) only [go_sem, seval, List.length_map, List.length_cons, nil_eq, List.isEmpty_cons]
          simp
        | nil =>
        simp (disch := omega) only [go_sem, seval, List.length_map, nil_eq, List.isEmpty_nil]
        refine aIf.intro (fun h2 => ?_) (fun h2 => ?_) <;> simp (disch := omega) only [go_sem, seval, List.length_map]
        rotate_left
        · rw [decide_eq_false (by omega)]
        refine aIf.intro (fun h3 => ?_) (fun h3 => ?_) <;> simp (disch := omega) only [go_sem, seval, List.length_map]
        rotate_left
        · rw [decide_eq_false (by omega)]
        refine aIf.intro (fun h4 => ?_) (fun h4 => ?_) <;> simp (disch := omega) only [go_sem, seval, List.length_map]
        rotate_left
        · rw [decide_eq_false (by omega)]
        congr 1; exact decide_eq_decide.2 (by omega)
      simp only [if_neg h1]
      refine aIf.intro (fun h1 => ?_) (fun h1 => ?_) <;> simp (disch := omega) only [go_sem, seval, List.length_map, str_list, str_listA]
      · simp only [h1, if_true, show ((4 : Int) == 4) = true from rfl, Bool.not_true, Bool.or_false]
        cases u
        · simp (disch := omega) only [go_sem, seval]
        simp (disch := omega) only [go_sem, seval, List.length_map, str_list, str_listA, nil_eq, Bool.and_true]
        cases s with
        | cons b t =>
          simp (disch := omega) only [go_sem, seval, List.length_map, List.length_cons, nil_eq, List.isEmpty_cons]
          simp
        | nil =>
        simp (disch := omega) only [go_sem, seval, List.length_map, nil_eq, List.isEmpty_nil]
        refine aIf.intro (fun h2 => ?_) (fun h2 => ?_) <;> simp (disch := omega) only [go_sem, seval, List.length_map]
        rotate_left
        · rw [decide_eq_false (by omega)]
        refine aIf.intro (fun h3 => ?_) (fun h3 => ?_) <;> simp (disch := omega) only [go_sem, seval, List.length_map]
        rotate_left
        · rw [decide_eq_false (by omega)]
        congr 1; exact decide_eq_decide.2 (by omega)
      · simp only [if_neg h1, Bool.false_and]
theorem rformedX_calls (Γ : Nat → Option (List AV)) (u : Bool) (x : Ex) (h : AH) (hs : ShX x) : ACalls Tryz.prog Γ 93 [encX x, .bool u] h fun v h' => h' = h ∧ v = .bool (allX (formU u) x) :=
  rformedX_calls_k Γ u _ x h (Nat.lt_succ_self _) hs
theorem ruleF_app (k : Tx) (r : Rl) : ∀ (ks : List Tx) (rs : List Rl) (ks2 : List Tx) (rs2 : List Rl), ks.length = rs.length → ruleF (ks ++ k :: ks2) (rs ++ r :: rs2) = (ruleF ks rs && ((r.kind == k) && decide (0 ≤ r.think ∧ r.think ≤ 1099511627775)) && ruleF ks2 rs2)
  | [], [], ks2, rs2, _ => by simp [ruleF]
  | [], _ :: _, _, _, h => by simp at h
  | _ :: _, [], _, _, h => by simp at h
  | a :: ks, b :: rs, ks2, rs2, h => by
    rw [List.cons_append, List.cons_append, ruleF, ruleF, ruleF_app k r ks rs ks2 rs2 (by simpa using h)]
    simp only [Bool.and_assoc]
theorem ruleF_nil (ks : List Tx) : ruleF ks [] = true := by cases ks <;> rfl
set_option maxRecDepth 100000 in
theorem rformed_calls (Γ : Nat → Option (List AV)) (p : Pol) (h : AH) (hs : ShP p) : ACalls Tryz.prog Γ 77 [encPol p] h fun v h' => h' = h ∧ v = .bool (formedF p) := by
  refine ACalls.drop ?_
  refine acalls_code (rs := [.tmp 2]) Tryz.func77 rfl rfl rfl rfl Ty.mixed (by kernel_rfl) ?_
  have c1 := fun h => rformedX_calls Γ false p.change h hs.change
  have hr := hs.rules
  have hk := hs.kinds
  have hd : formedF p = (decide (0 < p.kinds.length ∧ p.rules.length = p.kinds.length ∧ 1 ≤ p.mode ∧ p.mode ≤ 4) && ruleF p.kinds p.rules && p.rules.all (fun r => allX (formU true) r.x) && allX (formU false) p.change) := rfl
  rw [encPol_eq]
  rw [encX_eq] at c1
  simp (disch := omega) only [go_sem, seval, encT_len, List.length_map]
  refine aIf.intro (fun h1 => ?_) (fun h1 => ?_) <;> simp (disch := omega) only [go_sem, seval, encT_len, List.length_map]
  · rw [hd, decide_eq_false (by omega)]; rfl
  refine aIf.intro (fun h2 => ?_) (fun h2 => ?_) <;> simp (disch := omega) only [go_sem, seval, encT_len, List.length_map]
  rotate_left
  · rw [hd, decide_eq_false (by omega)]; rfl
  refine aIf.intro (fun h3 => ?_) (fun h3 => ?_) <;> simp (disch := omega) only [go_sem, seval, encT_len, List.length_map]
  · rw [hd, decide_eq_false (by omega)]; rfl
  refine aIf.intro (fun h4 => ?_) (fun h4 => ?_) <;> simp (disch := omega) only [go_sem, seval, encT_len, List.length_map]
  · rw [hd, decide_eq_false (by omega)]; rfl
  rw [decide_eq_true (by omega), Bool.true_and] at hd
  obtain ⟨K, hK⟩ : ∃ K : AH → AH, K = fun l => h ++ .row [.str ⟨⟨p.name⟩⟩, .sl (encT p.kinds) .free, .sl (encT p.offices) .free, .sl (p.rules.map encRl) .free, .int .i64 p.change.k, .int .i64 p.change.n, .int .i64 p.change.no, .str ⟨⟨p.change.name⟩⟩, .sl (p.change.l.map encX) .free, .int .i64 p.mode] 37 :: l := ⟨_, rfl⟩
  refine awp_loopL (β := AH) p.rules [1, 3] (fun don _ => [(1, .ptr (some (h.length, 0))), (3, .int .i64 don.length)]) (fun j => h ++ .row [.str ⟨⟨p.name⟩⟩, .sl (encT p.kinds) .free, .sl (encT p.offices) .free, .sl (p.rules.map encRl) .free, .int .i64 p.change.k, .int .i64 p.change.n, .int .i64 p.change.no, .str ⟨⟨p.change.name⟩⟩, .sl (p.change.l.map encX) .free, .int .i64 p.mode] 37 :: j) (fun don _ _ => ruleF (p.kinds.take don.length) don = true ∧ don.all (fun r => allX (formU true) r.x) = true) [] ?_ rfl ⟨rfl, rfl⟩ Ty.mixed (by kernel_rfl) ?_ ?_
  · simp (disch := omega) only [go_sem, seval]
  · rintro don x r j hdn ⟨hp, hq⟩
    have hlen : p.rules.length = don.length + 1 + r.length := by rw [hdn]; simp; omega
    have e1 : (p.rules.map encRl)[don.length]? = some (encRl x) := by rw [hdn]; exact rowMid ..
    have hx : x ∈ p.rules := by rw [hdn]; simp
    obtain ⟨k, hkk⟩ : ∃ k, p.kinds[don.length]? = some k := ⟨_, List.getElem?_eq_getElem (by omega)⟩
    have e2 : (encT p.kinds)[don.length]? = some (.str ⟨⟨k⟩⟩) := by simp [encT, hkk]
    have hsplit : p.kinds = p.kinds.take don.length ++ k :: p.kinds.drop (don.length + 1) := by
      have hlt : don.length < p.kinds.length := by omega
      rw [List.getElem?_eq_getElem hlt] at hkk
      cases hkk
      rw [List.getElem_cons_drop, List.take_append_drop]
    have htl : (p.kinds.take don.length).length = don.length := by rw [List.length_take]; omega
    have hrf : ruleF p.kinds p.rules = ((x.kind == k) && decide (0 ≤ x.think ∧ x.think ≤ 1099511627775) && ruleF (p.kinds.drop (don.length + 1)) r) := by
      conv => lhs; rw [hsplit, hdn, ruleF_app k x _ _ _ _ htl, hp, Bool.true_and]
    have hrx : p.rules.all (fun r => allX (formU true) r.x) = (allX (formU true) x.x && r.all (fun r => allX (formU true) r.x)) := by rw [hdn, List.all_append, hq, List.all_cons, Bool.true_and]
    have hnx : ruleF (p.kinds.take (don.length + 1)) (don ++ [x]) = ((x.kind == k) && decide (0 ≤ x.think ∧ x.think ≤ 1099511627775)) := by
      rw [List.take_add_one, hkk]
      have := ruleF_app k x (p.kinds.take don.length) don [] [] htl
      simp only [hp, ruleF_nil, Bool.true_and, Bool.and_true] at this
      exact this
    have c2 := fun h => rformedX_calls Γ true x.x h (hs.rulesX x hx)
    rw [encX_eq] at c2
    rw [encRl_eq] at e1
    simp (disch := omega) only [go_sem, seval, List.length_map]
    refine aIf.pos (by omega) ?_
    simp (disch := omega) only [go_sem, seval, e1, e2, str_list, str_listA]
    cases h5 : (x.kind == k) <;> rw [h5] at hrf hnx <;> simp (disch := omega) only [go_sem, seval]
    · rw [hd, hrf]; rfl
    refine aIf.intro (fun h6 => ?_) (fun h6 => ?_) <;> simp (disch := omega) only [go_sem, seval]
    · rw [hd, hrf, decide_eq_false (by omega)]; rfl
    refine aIf.intro (fun h7 => ?_) (fun h7 => ?_) <;> simp (disch := omega) only [go_sem, seval]
    · rw [hd, hrf, decide_eq_false (by omega)]; rfl
    rw [decide_eq_true (by omega), Bool.true_and] at hnx
    refine aCallF.intro (fun _ => c2 _) ?_
    simp (disch := omega) only [go_sem, seval]
    cases hl : allX (formU true) x.x <;> rw [hl] at hrx <;> simp (disch := omega) only [go_sem, seval]
    · rw [hd, hrx]; simp
    · refine roundL_next (j ++ [.row [.str ⟨⟨x.kind⟩⟩, .int .i64 x.kno, .int .i64 x.think, .int .i64 x.x.k, .int .i64 x.x.n, .int .i64 x.x.no, .str ⟨⟨x.x.name⟩⟩, .sl (x.x.l.map encX) .free] 60]) ?_ ?_ ?_
      · refine ⟨?_, ?_⟩
        · rw [List.length_append]; exact hnx
        · rw [List.all_append, hq, List.all_cons, hl]; rfl
      · simp (disch := omega) only [go_sem, seval, List.length_append]
      · rfl
  · rintro j ⟨hp, hq⟩
    rw [List.take_of_length_le (by omega)] at hp
    simp (disch := omega) only [go_sem, seval, List.length_map]
    refine AWP.keep [1] (aCode_ok Ty.mixed _ _ _ _ (by kernel_rfl) ?_)
    simp (disch := omega) only [go_sem, seval]
    refine ACalls.det (c1 _) ?_
    simp (disch := omega) only [go_sem, seval]
    rw [hd, hp, hq]; rfl
end Go.Proofs.YtjdhgaflenhljaaGreatDoor

/- The reference's resolved, Resolve. No conditions. -/
set_option linter.unusedSimpArgs false
set_option linter.unusedVariables false
namespace Go.Proofs.YtjdhgaflenhljaaGreatDoor
open Go Go.Proofs Go.Abs

theorem OwnAt.len {K K' j : AH} {n : Nat} {own : Abs.Own} (ho : OwnAt K j n own) (e : K.length = K'.length) : OwnAt K' j n own := by
  cases own with
  | full => trivial
  | free => exact ho
  | arena i => obtain ⟨i', h1, h2⟩ := ho; exact ⟨i', by rw [h1, e], h2⟩
theorem resX_mk (o : List Tx) (k n no : Int) (s : Tx) (l : List Ex) : resX o (.mk k n no s l) = .mk k n (wantF o (.mk k n no s l)) s (l.map (resX o)) := by rw [resX, resXs_map]
def rdK (o : List Tx) (h : AH) (k n no w : Int) (s : Tx) (l dn : List Ex) (own : Abs.Own) : AH := h ++ [.row [.int .i64 k, .int .i64 n, .int .i64 no, .str ⟨⟨s⟩⟩, .sl (l.map encX) .free] 35, .row [.int .i64 0, .int .i64 0, .int .i64 0, .str ⟨#[]⟩, .sl [] .full] 35, .row [.int .i64 k, .int .i64 n, .int .i64 w, .str ⟨⟨s⟩⟩, .sl (dn.map fun y => encX (resX o y)) own] 35]
theorem rows_res (o : List Tx) (l : List Ex) : RowsOK 5 (l.map fun y => encX (resX o y)) := by
  have := rowsOK_X (l.map (resX o))
  rwa [List.map_map] at this
set_option maxRecDepth 100000 in
theorem rresolved_calls_k (Γ : Nat → Option (List AV)) (o : List Tx) (ho : o.length ≤ 9223372036854775807) : ∀ (m : Nat) (x : Ex) (h : AH), SizeOf.sizeOf x < m → ShX x → sizeX x ≤ 1000000 → ACalls Tryz.prog Γ 78 [.sl (encT o) .free, encX x] h fun v h' => h' = h ∧ v = encX (resX o x)
  | 0, _, _, hk, _, _ => absurd hk (Nat.not_lt_zero _)
  | m + 1, .mk k n no s l, h, hsz, hs, hlim => by
    refine ACalls.dropL ?_
    refine acalls_code (rs := [.cell 4 35]) Tryz.func78 rfl rfl rfl rfl Ty.mixed (by kernel_rfl) ?_
    simp only [encX_mk, resX_mk]
    simp (disch := omega) only [go_sem, seval]
    have hl1 := hs.len
    rw [sizeX] at hlim
    have hwd : wantF o (.mk k n no s l) = if (k == 1 || k == 2) then idxT o s else 0 := rfl
    refine aIf.intro (fun h1 => ?_) (fun h1 => ?_) <;> simp (disch := omega) only [go_sem, seval]
    · refine ACalls.det (rindex_calls Γ o s _ ho) ?_
      simp (disch := omega) only [go_sem, seval]
      obtain ⟨w, hw⟩ : ∃ w : Int, w = idxT o s := ⟨_, rfl⟩
      rw [← hw]
      have hwf : wantF o (.mk k n no s l) = w := by rw [hwd, hw]; simp [h1]
      rw [hwf]
      refine awp_loopL (β := List Ex × Abs.Own × AH) l [0, 3, 4, 5, 6] (fun don _ => [(0, .sl (encT o) .free), (3, .ptr (some (h.length, 0))), (4, .ptr (some (h.length + 1, 0))), (5, .ptr (some (h.length + 2, 0))), (6, .int .i64 don.length)]) (fun b => rdK o h k n no w s l b.1 b.2.1 ++ b.2.2) (fun don _ b => b.1 = don ∧ OwnAt (rdK o h k n no w s l b.1 b.2.1) b.2.2 don.length b.2.1) ([], .full, []) ?_ (by simp [rdK, hw]) ⟨rfl, trivial⟩ Ty.mixed (by kernel_rfl) ?_ ?_
      · simp (disch := omega) only [go_sem, seval]
      · rintro don x r ⟨dn, own, X⟩ hdn ⟨rfl, hown⟩
        simp only at hown ⊢
        have hlen : l.length = dn.length + 1 + r.length := by rw [hdn]; simp; omega
        have e1 : (l.map encX)[dn.length]? = some (encX x) := by rw [hdn]; exact rowMid ..
        have hx : x ∈ l := by rw [hdn]; simp
        have hb := size_mem hx
        have hbl := sizes_len l
        simp (disch := omega) only [go_sem, seval, List.length_map, rdK]
        refine aIf.pos (by omega) ?_
        simp (disch := omega) only [go_sem, seval, e1, rdK]
        refine aCallF.intro (fun _ => rresolved_calls_k Γ o ho m x _ (memX_sz hx hsz) (hs.mem x hx) (by omega)) ?_
        simp (disch := omega) only [go_sem, seval, rdK]
        have eh : ∀ dn own X, h ++ .row [.int .i64 k, .int .i64 n, .int .i64 no, .str ⟨⟨s⟩⟩, .sl (l.map encX) .free] 35 :: .row [.int .i64 0, .int .i64 0, .int .i64 0, .str ⟨#[]⟩, .sl [] .full] 35 :: .row [.int .i64 k, .int .i64 n, .int .i64 w, .str ⟨⟨s⟩⟩, .sl (dn.map fun y => encX (resX o y)) own] 35 :: X = rdK o h k n no w s l dn own ++ X := fun dn own X => by simp [rdK]
        rw [eh]
        refine aAp_sl (by rw [List.length_map]; exact hown) (rows_res o _) (rowsOK_X [resX o x]) (by simp; omega) (by simp; omega) fun j' own' ho' hg => ?_
        rw [rdK]
        simp (disch := omega) only [go_sem, seval]
        refine roundL_next (dn ++ [x], own', j') ⟨rfl, ?_⟩ ?_ ?_
        · refine OwnAt.len (K := rdK o h k n no w s l dn own) ?_ (by simp [rdK])
          simpa using ho'
        · simp (disch := omega) only [go_sem, seval, List.length_append]
        · simp [rdK]
      · rintro ⟨dn, own, X⟩ ⟨rfl, hown⟩
        simp only at hown ⊢
        simp (disch := omega) only [go_sem, seval, List.length_map, rdK]
        refine AWP.keep [4, 5] (aCode_ok Ty.mixed _ _ _ _ (by kernel_rfl) ?_)
        simp (disch := omega) only [go_sem, seval, rdK]
        rw [show dn.map (fun y => encX (resX o y)) = (dn.map (resX o)).map encX from by rw [List.map_map]; rfl, loose_Xs]
        exact ⟨rb_Xs _ _ ▸ trivial, rfl⟩
    · refine aIf.intro (fun h2 => ?_) (fun h2 => ?_) <;> simp (disch := omega) only [go_sem, seval]
      · refine ACalls.det (rindex_calls Γ o s _ ho) ?_
        simp (disch := omega) only [go_sem, seval]
        obtain ⟨w, hw⟩ : ∃ w : Int, w = idxT o s := ⟨_, rfl⟩
        rw [← hw]
        have hwf : wantF o (.mk k n no s l) = w := by rw [hwd, hw]; simp [h2]
        rw [hwf]
        refine awp_loopL (β := List Ex × Abs.Own × AH) l [0, 3, 4, 5, 6] (fun don _ => [(0, .sl (encT o) .free), (3, .ptr (some (h.length, 0))), (4, .ptr (some (h.length + 1, 0))), (5, .ptr (some (h.length + 2, 0))), (6, .int .i64 don.length)]) (fun b => rdK o h k n no w s l b.1 b.2.1 ++ b.2.2) (fun don _ b => b.1 = don ∧ OwnAt (rdK o h k n no w s l b.1 b.2.1) b.2.2 don.length b.2.1) ([], .full, []) ?_ (by simp [rdK, hw]) ⟨rfl, trivial⟩ Ty.mixed (by kernel_rfl) ?_ ?_
        · simp (disch := omega) only [go_sem, seval]
        · rintro don x r ⟨dn, own, X⟩ hdn ⟨rfl, hown⟩
          simp only at hown ⊢
          have hlen : l.length = dn.length + 1 + r.length := by rw [hdn]; simp; omega
          have e1 : (l.map encX)[dn.length]? = some (encX x) := by rw [hdn]; exact rowMid ..
          have hx : x ∈ l := by rw [hdn]; simp
          have hb := size_mem hx
          have hbl := sizes_len l
          simp (disch := omega) only [go_sem, seval, List.length_map, rdK]
          refine aIf.pos (by omega) ?_
          simp (disch := omega) only [go_sem, seval, e1, rdK]
          refine aCallF.intro (fun _ => rresolved_calls_k Γ o ho m x _ (memX_sz hx hsz) (hs.mem x hx) (by omega)) ?_
          simp (disch := omega) only [go_sem, seval, rdK]
          have eh : ∀ dn own X, h ++ .row [.int .i64 k, .int .i64 n, .int .i64 no, .str ⟨⟨s⟩⟩, .sl (l.map encX) .free] 35 :: .row [.int .i64 0, .int .i64 0, .int .i64 0, .str ⟨#[]⟩, .sl [] .full] 35 :: .row [.int .i64 k, .int .i64 n, .int .i64 w, .str ⟨⟨s⟩⟩, .sl (dn.map fun y => encX (resX o y)) own] 35 :: X = rdK o h k n no w s l dn own ++ X := fun dn own X => by simp [rdK]
          rw [eh]
          refine aAp_sl (by rw [List.length_map]; exact hown) (rows_res o _) (rowsOK_X [resX o x]) (by simp; omega) (by simp; omega) fun j' own' ho' hg => ?_
          rw [rdK]
          simp (disch := omega) only [go_sem, seval]
          refine roundL_next (dn ++ [x], own', j') ⟨rfl, ?_⟩ ?_ ?_
          · refine OwnAt.len (K := rdK o h k n no w s l dn own) ?_ (by simp [rdK])
            simpa using ho'
          · simp (disch := omega) only [go_sem, seval, List.length_append]
          · simp [rdK]
        · rintro ⟨dn, own, X⟩ ⟨rfl, hown⟩
          simp only at hown ⊢
          simp (disch := omega) only [go_sem, seval, List.length_map, rdK]
          refine AWP.keep [4, 5] (aCode_ok Ty.mixed _ _ _ _ (by kernel_rfl) ?_)
          simp (disch := omega) only [go_sem, seval, rdK]
          rw [show dn.map (fun y => encX (resX o y)) = (dn.map (resX o)).map encX from by rw [List.map_map]; rfl, loose_Xs]
          exact ⟨rb_Xs _ _ ▸ trivial, rfl⟩
      · obtain ⟨w0, hw0⟩ : ∃ w : Int, w = 0 := ⟨_, rfl⟩
        obtain ⟨w, hw⟩ : ∃ w : Int, w = 0 := ⟨_, rfl⟩
        rw [show (AV.int .i64 0 : AV) = .int .i64 0 from rfl]
        have hwf : wantF o (.mk k n no s l) = w := by rw [hwd, hw]; simp [h1, h2]
        rw [hwf]
        refine awp_loopL (β := List Ex × Abs.Own × AH) l [0, 3, 4, 5, 6] (fun don _ => [(0, .sl (encT o) .free), (3, .ptr (some (h.length, 0))), (4, .ptr (some (h.length + 1, 0))), (5, .ptr (some (h.length + 2, 0))), (6, .int .i64 don.length)]) (fun b => rdK o h k n no w s l b.1 b.2.1 ++ b.2.2) (fun don _ b => b.1 = don ∧ OwnAt (rdK o h k n no w s l b.1 b.2.1) b.2.2 don.length b.2.1) ([], .full, []) ?_ (by simp [rdK, hw]) ⟨rfl, trivial⟩ Ty.mixed (by kernel_rfl) ?_ ?_
        · simp (disch := omega) only [go_sem, seval]
        · rintro don x r ⟨dn, own, X⟩ hdn ⟨rfl, hown⟩
          simp only at hown ⊢
          have hlen : l.length = dn.length + 1 + r.length := by rw [hdn]; simp; omega
          have e1 : (l.map encX)[dn.length]? = some (encX x) := by rw [hdn]; exact rowMid ..
          have hx : x ∈ l := by rw [hdn]; simp
          have hb := size_mem hx
          have hbl := sizes_len l
          simp (disch := omega) only [go_sem, seval, List.length_map, rdK]
          refine aIf.pos (by omega) ?_
          simp (disch := omega) only [go_sem, seval, e1, rdK]
          refine aCallF.intro (fun _ => rresolved_calls_k Γ o ho m x _ (memX_sz hx hsz) (hs.mem x hx) (by omega)) ?_
          simp (disch := omega) only [go_sem, seval, rdK]
          have eh : ∀ dn own X, h ++ .row [.int .i64 k, .int .i64 n, .int .i64 no, .str ⟨⟨s⟩⟩, .sl (l.map encX) .free] 35 :: .row [.int .i64 0, .int .i64 0, .int .i64 0, .str ⟨#[]⟩, .sl [] .full] 35 :: .row [.int .i64 k, .int .i64 n, .int .i64 w, .str ⟨⟨s⟩⟩, .sl (dn.map fun y => encX (resX o y)) own] 35 :: X = rdK o h k n no w s l dn own ++ X := fun dn own X => by simp [rdK]
          rw [eh]
          refine aAp_sl (by rw [List.length_map]; exact hown) (rows_res o _) (rowsOK_X [resX o x]) (by simp; omega) (by simp; omega) fun j' own' ho' hg => ?_
          rw [rdK]
          simp (disch := omega) only [go_sem, seval]
          refine roundL_next (dn ++ [x], own', j') ⟨rfl, ?_⟩ ?_ ?_
          · refine OwnAt.len (K := rdK o h k n no w s l dn own) ?_ (by simp [rdK])
            simpa using ho'
          · simp (disch := omega) only [go_sem, seval, List.length_append]
          · simp [rdK]
        · rintro ⟨dn, own, X⟩ ⟨rfl, hown⟩
          simp only at hown ⊢
          simp (disch := omega) only [go_sem, seval, List.length_map, rdK]
          refine AWP.keep [4, 5] (aCode_ok Ty.mixed _ _ _ _ (by kernel_rfl) ?_)
          simp (disch := omega) only [go_sem, seval, rdK]
          rw [show dn.map (fun y => encX (resX o y)) = (dn.map (resX o)).map encX from by rw [List.map_map]; rfl, loose_Xs]
          exact ⟨rb_Xs _ _ ▸ trivial, rfl⟩
theorem rresolved_calls (Γ : Nat → Option (List AV)) (o : List Tx) (x : Ex) (h : AH) (ho : o.length ≤ 9223372036854775807) (hs : ShX x) (hl : sizeX x ≤ 1000000) : ACalls Tryz.prog Γ 78 [.sl (encT o) .free, encX x] h fun v h' => h' = h ∧ v = encX (resX o x) :=
  rresolved_calls_k Γ o ho _ x h (Nat.lt_succ_self _) hs hl
end Go.Proofs.YtjdhgaflenhljaaGreatDoor

/- The reference's Resolve. No conditions. -/
set_option linter.unusedSimpArgs false
set_option linter.unusedVariables false
namespace Go.Proofs.YtjdhgaflenhljaaGreatDoor
open Go Go.Proofs Go.Abs

def polZ : Pol := ⟨[], [], [], [], .mk 0 0 0 [] [], 0⟩
def resolveF (p : Pol) : Pol × Int := if errF p = 0 then (resP p, 0) else (polZ, errF p)
def encRe (r : Pol × Int) : AV := .tuple [encPol r.1, .int .i64 r.2]
theorem resRs_app (o : List Tx) : ∀ (i : Int) (a b : List Rl), resRs o i (a ++ b) = resRs o i a ++ resRs o (i + a.length) b
  | i, [], b => by simp [resRs]
  | i, x :: a, b => by rw [List.cons_append, resRs, resRs, resRs_app o (i + 1) a b, List.cons_append, List.length_cons]; congr 3; omega
theorem resRs_len (o : List Tx) : ∀ (i : Int) (a : List Rl), (resRs o i a).length = a.length
  | _, [] => rfl
  | i, x :: a => by rw [resRs, List.length_cons, List.length_cons, resRs_len]
theorem large_size {x : Ex} (h : largeF x = false) : sizeX x ≤ 256 := by simp [largeF] at h; omega
theorem sized_facts {p : Pol} (h : sizedF p = true) : (p.offices.length ≤ 32 ∧ p.kinds.length ≤ 16 ∧ p.rules.length ≤ 16) ∧ (∀ r ∈ p.rules, largeF r.x = false) ∧ largeF p.change = false := by
  simp only [sizedF, exprs, Bool.and_eq_true, decide_eq_true_eq, List.all_append, List.all_map, List.all_cons, List.all_nil, Bool.and_true, Bool.not_eq_true'] at h
  refine ⟨h.1, fun r hr => ?_, h.2.2⟩
  have := List.all_eq_true.1 h.2.1 r hr
  simpa using this
def rpK (h : AH) (p : Pol) (rs : List Rl) (own : Abs.Own) : AH := h ++ [.row [.str ⟨⟨p.name⟩⟩, .sl (encT p.kinds) .free, .sl (encT p.offices) .free, .sl (p.rules.map encRl) .free, .int .i64 p.change.k, .int .i64 p.change.n, .int .i64 p.change.no, .str ⟨⟨p.change.name⟩⟩, .sl (p.change.l.map encX) .free, .int .i64 p.mode] 37, .row [.str ⟨#[]⟩, .sl [] .full, .sl [] .full, .sl [] .full, .int .i64 0, .int .i64 0, .int .i64 0, .str ⟨#[]⟩, .sl [] .full, .int .i64 0] 37, .row [.str ⟨⟨p.name⟩⟩, .sl (encT p.kinds) .free, .sl (encT p.offices) .free, .sl (rs.map encRl) own, .int .i64 p.change.k, .int .i64 p.change.n, .int .i64 p.change.no, .str ⟨⟨p.change.name⟩⟩, .sl (p.change.l.map encX) .free, .int .i64 p.mode] 37]
set_option maxRecDepth 100000 in
theorem rresolve_calls (Γ : Nat → Option (List AV)) (p : Pol) (h : AH) (hs : ShP p) : ACalls Tryz.prog Γ 57 [encPol p] h fun v h' => h' = h ∧ v = encRe (resolveF p) := by
  have c1 := fun h => rtooLarge_calls Γ p h hs
  have c2 := fun h => rnames_calls Γ p h hs
  have c3 := fun h => rformed_calls Γ p h hs
  have c4 := fun h hl => rresolved_calls Γ p.offices p.change h hs.offices hs.change hl
  have hd : resolveF p = if errF p = 0 then (resP p, 0) else (polZ, errF p) := rfl
  have he : errF p = if sizedF p = false then 2 else if namesF p = false then 201 else if formedF p = false then 200 else 0 := rfl
  have hr := hs.rules
  have hz : encPol polZ = .agg [.str ⟨#[]⟩, .sl [] .free, .sl [] .free, .sl [] .free, .int .i64 0, .int .i64 0, .int .i64 0, .str ⟨#[]⟩, .sl [] .free, .int .i64 0] := by rw [encPol_eq]; rfl
  refine ACalls.dropL ?_
  refine acalls_code (rs := [.cell 2 37, .tmp 3]) Tryz.func57 rfl rfl rfl rfl Ty.mixed (by kernel_rfl) ?_
  rw [encPol_eq] at c1 c2 c3 ⊢
  rw [encX_eq] at c4
  simp (disch := omega) only [go_sem, seval]
  refine ACalls.det (c1 _) ?_
  simp (disch := omega) only [go_sem, seval]
  cases h1 : sizedF p <;> rw [h1] at he <;> simp (disch := omega) only [go_sem, seval]
  · rw [hd, he]; simp [encRe, hz]
  have hsz := sized_facts h1
  refine ACalls.det (c2 _) ?_
  simp (disch := omega) only [go_sem, seval]
  cases h2 : namesF p <;> rw [h2] at he <;> simp (disch := omega) only [go_sem, seval]
  · rw [hd, he]; simp [encRe, hz]
  refine ACalls.det (c3 _) ?_
  simp (disch := omega) only [go_sem, seval]
  cases h3 : formedF p <;> rw [h3] at he <;> simp (disch := omega) only [go_sem, seval]
  · rw [hd, he]; simp [encRe, hz]
  have he0 : errF p = 0 := he
  rw [hd, he0]
  simp only [if_true]
  refine awp_loopL (β := List Rl × Abs.Own × AH) p.rules [1, 2, 4, 5] (fun don _ => [(1, .ptr (some (h.length, 0))), (2, .ptr (some (h.length + 1, 0))), (4, .ptr (some (h.length + 2, 0))), (5, .int .i64 don.length)]) (fun b => rpK h p b.1 b.2.1 ++ b.2.2) (fun don _ b => b.1 = resRs p.offices 0 don ∧ OwnAt (rpK h p b.1 b.2.1) b.2.2 don.length b.2.1) ([], .full, []) ?_ (by simp [rpK]) ⟨rfl, trivial⟩ Ty.mixed (by kernel_rfl) ?_ ?_
  · simp (disch := omega) only [go_sem, seval]
  · rintro don x r ⟨rs, own, X⟩ hdn ⟨hrs, hown⟩
    simp only at hown hrs ⊢
    have hlen : p.rules.length = don.length + 1 + r.length := by rw [hdn]; simp; omega
    have e1 : (p.rules.map encRl)[don.length]? = some (encRl x) := by rw [hdn]; exact rowMid ..
    have hx : x ∈ p.rules := by rw [hdn]; simp
    have hrl : rs.length = don.length := by rw [hrs, resRs_len]
    have c5 := fun h => rresolved_calls Γ p.offices x.x h hs.offices (hs.rulesX x hx) (by have := large_size (hsz.2.1 x hx); omega)
    rw [encX_eq] at c5
    rw [encRl_eq] at e1
    simp (disch := omega) only [go_sem, seval, List.length_map, rpK]
    refine aIf.pos (by omega) ?_
    simp (disch := omega) only [go_sem, seval, e1, rpK]
    refine ACalls.det (c5 _) ?_
    simp (disch := omega) only [go_sem, seval, encX_eq (resX p.offices x.x), AV.cells]
    have hxr : AV.agg [.str ⟨⟨x.kind⟩⟩, .int .i64 don.length, .int .i64 x.think, .int .i64 (resX p.offices x.x).k, .int .i64 (resX p.offices x.x).n, .int .i64 (resX p.offices x.x).no, .str ⟨⟨(resX p.offices x.x).name⟩⟩, .sl ((resX p.offices x.x).l.map encX) .free] = encRl (resRl p.offices don.length x) := by rw [encRl_eq]; rfl
    rw [hxr]
    have eh : ∀ rs own X, h ++ .row [.str ⟨⟨p.name⟩⟩, .sl (encT p.kinds) .free, .sl (encT p.offices) .free, .sl (p.rules.map encRl) .free, .int .i64 p.change.k, .int .i64 p.change.n, .int .i64 p.change.no, .str ⟨⟨p.change.name⟩⟩, .sl (p.change.l.map encX) .free, .int .i64 p.mode] 37 :: .row [.str ⟨#[]⟩, .sl [] .full, .sl [] .full, .sl [] .full, .int .i64 0, .int .i64 0, .int .i64 0, .str ⟨#[]⟩, .sl [] .full, .int .i64 0] 37 :: .row [.str ⟨⟨p.name⟩⟩, .sl (encT p.kinds) .free, .sl (encT p.offices) .free, .sl (rs.map encRl) own, .int .i64 p.change.k, .int .i64 p.change.n, .int .i64 p.change.no, .str ⟨⟨p.change.name⟩⟩, .sl (p.change.l.map encX) .free, .int .i64 p.mode] 37 :: X = rpK h p rs own ++ X := fun rs own X => by simp [rpK]
    rw [eh]
    refine aAp_sl (by rw [List.length_map, hrl]; exact hown.app _) (rowsOK_R _) (rowsOK_R [resRl p.offices don.length x]) (by simp; omega) (by simp; omega) fun j' own' ho' hg => ?_
    rw [rpK]
    simp (disch := omega) only [go_sem, seval]
    refine roundL_next (rs ++ [resRl p.offices don.length x], own', j') ⟨?_, ?_⟩ ?_ ?_
    · rw [hrs, resRs_app]; simp [resRs]
    · refine OwnAt.len (K := rpK h p rs own) ?_ (by simp [rpK])
      simpa [hrl] using ho'
    · simp (disch := omega) only [go_sem, seval, List.length_append]
    · simp [rpK]
  · rintro ⟨rs, own, X⟩ ⟨hrs, hown⟩
    simp only at hown hrs ⊢
    simp (disch := omega) only [go_sem, seval, List.length_map, rpK]
    refine AWP.keep [1, 2, 4] (aCode_ok Ty.mixed _ _ _ _ (by kernel_rfl) ?_)
    simp (disch := omega) only [go_sem, seval, rpK]
    refine ACalls.det (c4 _ (by have := large_size hsz.2.2; omega)) ?_
    simp (disch := omega) only [go_sem, seval, encX_eq (resX p.offices p.change), AV.cells]
    rw [encRe, encPol_eq, hrs]
    rfl
end Go.Proofs.YtjdhgaflenhljaaGreatDoor

/- The reference's SameTexts, SameExpr, Same, Check. No conditions. -/
set_option linter.unusedSimpArgs false
set_option linter.unusedVariables false
namespace Go.Proofs.YtjdhgaflenhljaaGreatDoor
open Go Go.Proofs Go.Abs

set_option maxRecDepth 100000 in
theorem rsameT_calls (Γ : Nat → Option (List AV)) (l : List Tx) (h : AH) (hl : l.length ≤ 9223372036854775807) : ACalls Tryz.prog Γ 79 [.sl (encT l) .free, .sl (encT l) .free] h fun v h' => h' = h ∧ v = .bool true := by
  refine ACalls.drop ?_
  refine acalls_code (rs := [.tmp 4]) Tryz.func79 rfl rfl rfl rfl Ty.mixed (by kernel_rfl) ?_
  simp (disch := omega) only [go_sem, seval]
  refine awp_loopL (β := Unit) l [0, 1, 5] (fun don _ => [(0, .sl (encT l) .free), (1, .sl (encT l) .free), (5, .int .i64 don.length)]) (fun _ => h) (fun don _ _ => True) () ?_ rfl trivial Ty.mixed (by kernel_rfl) ?_ ?_
  · simp (disch := omega) only [go_sem, seval, List.length_nil]
  · rintro don x r _ hd _
    have hlen : l.length = don.length + 1 + r.length := by rw [hd]; simp; omega
    have e1 : (encT l)[don.length]? = some (.str ⟨⟨x⟩⟩) := by rw [hd]; exact encT_get don r x
    simp (disch := omega) only [go_sem, seval, encT_len]
    refine aIf.pos (by omega) ?_
    simp (disch := omega) only [go_sem, seval, e1]
    refine roundL_next () trivial ?_ rfl
    simp (disch := omega) only [go_sem, seval, List.length_append]
  · rintro _ _
    simp (disch := omega) only [go_sem, seval, encT_len]
    refine AWP.keep [] (aCode_ok Ty.mixed _ _ _ _ (by kernel_rfl) ?_)
    simp (disch := omega) only [go_sem, seval]
set_option maxRecDepth 100000 in
theorem rsameX_calls_k (Γ : Nat → Option (List AV)) (o : List Tx) : ∀ (m : Nat) (x : Ex) (h : AH), SizeOf.sizeOf x < m → ShX x → ACalls Tryz.prog Γ 80 [encX (resX o x), encX x] h fun v h' => h' = h ∧ v = .bool (resdF o x)
  | 0, _, _, hk, _ => absurd hk (Nat.not_lt_zero _)
  | m + 1, .mk k n no s l, h, hsz, hs => by
    refine ACalls.drop ?_
    refine acalls_code (rs := [.tmp 4]) Tryz.func80 rfl rfl rfl rfl Ty.mixed (by kernel_rfl) ?_
    have hd : resdF o (.mk k n no s l) = ((no == wantF o (.mk k n no s l)) && l.all (resdF o)) := by rw [resdF, allX, allXs_all]; rfl
    rw [hd]
    simp only [resX_mk, encX_mk, List.map_map]
    generalize wantF o (.mk k n no s l) = w at *
    have hl1 := hs.len
    simp (disch := omega) only [go_sem, seval, List.length_map, str_list]
    refine aIf.intro (fun h1 => ?_) (fun h1 => ?_) <;> simp (disch := omega) only [go_sem, seval, List.length_map, str_list]
    · subst h1
      rw [beq_self_eq_true, Bool.true_and]
      refine awp_loopL (β := Unit) l [2, 3, 5] (fun don _ => [(2, .ptr (some (h.length, 0))), (3, .ptr (some (h.length + 1, 0))), (5, .int .i64 don.length)]) (fun _ => h ++ [.row [.int .i64 k, .int .i64 n, .int .i64 w, .str ⟨⟨s⟩⟩, .sl (l.map (encX ∘ resX o)) .free] 35, .row [.int .i64 k, .int .i64 n, .int .i64 w, .str ⟨⟨s⟩⟩, .sl (l.map encX) .free] 35]) (fun don _ _ => don.all (resdF o) = true) () ?_ rfl rfl Ty.mixed (by kernel_rfl) ?_ ?_
      · simp (disch := omega) only [go_sem, seval, List.length_nil]
      · rintro don x r _ hdn hp
        have hlen : l.length = don.length + 1 + r.length := by rw [hdn]; simp; omega
        have e1 : (l.map encX)[don.length]? = some (encX x) := by rw [hdn]; exact rowMid ..
        have e2 : (l.map (encX ∘ resX o))[don.length]? = some (encX (resX o x)) := by rw [hdn]; exact rowMid ..
        have hx : x ∈ l := by rw [hdn]; simp
        simp (disch := omega) only [go_sem, seval, List.length_map]
        refine aIf.pos (by omega) ?_
        simp (disch := omega) only [go_sem, seval, e1, e2]
        refine aCallF.intro (fun _ => rsameX_calls_k Γ o m x _ (memX_sz hx hsz) (hs.mem x hx)) ?_
        simp (disch := omega) only [go_sem, seval]
        cases hl : resdF o x <;> simp (disch := omega) only [go_sem, seval]
        · have : l.all (resdF o) = false := by rw [hdn, List.all_append, List.all_cons, hl]; simp
          rw [this]
        · refine roundL_next () (by rw [List.all_append, hp, List.all_cons, hl]; rfl) ?_ rfl
          simp (disch := omega) only [go_sem, seval, List.length_append]
      · rintro _ hp
        rw [hp]
        simp (disch := omega) only [go_sem, seval, List.length_map]
        refine AWP.keep [] (aCode_ok Ty.mixed _ _ _ _ (by kernel_rfl) ?_)
        simp (disch := omega) only [go_sem, seval]
    · rw [beq_eq_false_iff_ne.2 (Ne.symm h1)]; rfl
theorem rsameX_calls (Γ : Nat → Option (List AV)) (o : List Tx) (x : Ex) (h : AH) (hs : ShX x) : ACalls Tryz.prog Γ 80 [encX (resX o x), encX x] h fun v h' => h' = h ∧ v = .bool (resdF o x) :=
  rsameX_calls_k Γ o _ x h (Nat.lt_succ_self _) hs
theorem resdRs_app (o : List Tx) : ∀ (i : Int) (a b : List Rl), resdRs o i (a ++ b) = (resdRs o i a && resdRs o (i + a.length) b)
  | i, [], b => by simp [resdRs]
  | i, x :: a, b => by
    rw [List.cons_append, resdRs, resdRs, resdRs_app o (i + 1) a b, List.length_cons]
    have : i + 1 + (a.length : Int) = i + ((a.length + 1 : Nat) : Int) := by omega
    rw [this]; simp only [Bool.and_assoc]
set_option maxRecDepth 100000 in
theorem rsame_calls (Γ : Nat → Option (List AV)) (p : Pol) (h : AH) (hs : ShP p) : ACalls Tryz.prog Γ 58 [encPol (resP p), encPol p] h fun v h' => h' = h ∧ v = .bool (resdRs p.offices 0 p.rules && resdF p.offices p.change) := by
  have c1 := fun h => rsameX_calls Γ p.offices p.change h hs.change
  have hr := hs.rules
  refine ACalls.drop ?_
  refine acalls_code (rs := [.tmp 4]) Tryz.func58 rfl rfl rfl rfl Ty.mixed (by kernel_rfl) ?_
  rw [encPol_eq p, encPol_eq (resP p)]
  rw [encX_eq p.change, encX_eq (resX p.offices p.change)] at c1
  simp only [resP]
  simp (disch := omega) only [go_sem, seval, encT_len, List.length_map, str_list]
  refine ACalls.det (rsameT_calls Γ p.offices _ hs.offices) ?_
  simp (disch := omega) only [go_sem, seval, encT_len, List.length_map, str_list]
  refine ACalls.det (rsameT_calls Γ p.kinds _ hs.kinds) ?_
  simp (disch := omega) only [go_sem, seval, encT_len, List.length_map, str_list, resRs_len]
  refine ACalls.det (c1 _) ?_
  simp (disch := omega) only [go_sem, seval]
  cases hc : resdF p.offices p.change <;> simp (disch := omega) only [go_sem, seval]
  have hbt : (resdRs p.offices 0 p.rules && true) = resdRs p.offices 0 p.rules := Bool.and_true _
  refine awp_loopL (β := AH) p.rules [2, 3, 5] (fun don _ => [(2, .ptr (some (h.length, 0))), (3, .ptr (some (h.length + 1, 0))), (5, .int .i64 don.length)]) (fun j => h ++ .row [.str ⟨⟨p.name⟩⟩, .sl (encT p.kinds) .free, .sl (encT p.offices) .free, .sl ((resRs p.offices 0 p.rules).map encRl) .free, .int .i64 (resX p.offices p.change).k, .int .i64 (resX p.offices p.change).n, .int .i64 (resX p.offices p.change).no, .str ⟨⟨(resX p.offices p.change).name⟩⟩, .sl ((resX p.offices p.change).l.map encX) .free, .int .i64 p.mode] 37 :: .row [.str ⟨⟨p.name⟩⟩, .sl (encT p.kinds) .free, .sl (encT p.offices) .free, .sl ((p.rules).map encRl) .free, .int .i64 (p.change).k, .int .i64 (p.change).n, .int .i64 (p.change).no, .str ⟨⟨(p.change).name⟩⟩, .sl ((p.change).l.map encX) .free, .int .i64 p.mode] 37 :: j) (fun don _ _ => resdRs p.offices 0 don = true) [] ?_ rfl rfl Ty.mixed (by kernel_rfl) ?_ ?_
  · simp (disch := omega) only [go_sem, seval, List.length_nil]
  · rintro don x r j hdn hp
    have hlen : p.rules.length = don.length + 1 + r.length := by rw [hdn]; simp; omega
    have e1 : (p.rules.map encRl)[don.length]? = some (encRl x) := by rw [hdn]; exact rowMid ..
    have e2 : ((resRs p.offices 0 p.rules).map encRl)[don.length]? = some (encRl (resRl p.offices don.length x)) := by
      rw [hdn, resRs_app, resRs]
      have := rowMid encRl (resRs p.offices 0 don) (resRs p.offices (0 + don.length + 1) r) (resRl p.offices (0 + don.length) x)
      rw [resRs_len, Int.zero_add] at this
      rw [Int.zero_add]
      exact this
    have hx : x ∈ p.rules := by rw [hdn]; simp
    have hrs : resdRs p.offices 0 p.rules = ((x.kno == don.length && resdF p.offices x.x) && resdRs p.offices (0 + don.length + 1) r) := by
      rw [hdn, resdRs_app, hp, Bool.true_and, resdRs, Int.zero_add]
    have hnx : resdRs p.offices 0 (don ++ [x]) = (x.kno == don.length && resdF p.offices x.x) := by
      rw [resdRs_app, hp, Bool.true_and, resdRs, Int.zero_add, resdRs, Bool.and_true]
    have c5 := fun h => rsameX_calls Γ p.offices x.x h (hs.rulesX x hx)
    rw [encX_eq x.x, encX_eq (resX p.offices x.x)] at c5
    rw [encRl_eq] at e1 e2
    simp only [resRl] at e2
    simp (disch := omega) only [go_sem, seval, List.length_map, resRs_len]
    refine aIf.pos (by omega) ?_
    simp (disch := omega) only [go_sem, seval, e1, e2, str_list]
    refine aIf.intro (fun h1 => ?_) (fun h1 => ?_) <;> simp (disch := omega) only [go_sem, seval]
    rotate_left
    · rw [hrs, beq_eq_false_iff_ne.2 (by omega)]; rfl
    rw [← h1, beq_self_eq_true, Bool.true_and] at hrs hnx
    refine ACalls.det (c5 _) ?_
    simp (disch := omega) only [go_sem, seval]
    cases hl : resdF p.offices x.x <;> rw [hl] at hrs hnx <;> simp (disch := omega) only [go_sem, seval]
    · rw [hrs]; rfl
    · refine roundL_next (j ++ [.row [.str ⟨⟨x.kind⟩⟩, .int .i64 don.length, .int .i64 x.think, .int .i64 (resX p.offices x.x).k, .int .i64 (resX p.offices x.x).n, .int .i64 (resX p.offices x.x).no, .str ⟨⟨(resX p.offices x.x).name⟩⟩, .sl ((resX p.offices x.x).l.map encX) .free] 60, .row [.str ⟨⟨x.kind⟩⟩, .int .i64 x.kno, .int .i64 x.think, .int .i64 (x.x).k, .int .i64 (x.x).n, .int .i64 (x.x).no, .str ⟨⟨(x.x).name⟩⟩, .sl ((x.x).l.map encX) .free] 60]) hnx ?_ ?_
      · simp (disch := omega) only [go_sem, seval, List.length_append]
      · simp
  · rintro j hp
    simp (disch := omega) only [go_sem, seval, List.length_map, resRs_len]
    refine AWP.keep [] (aCode_ok Ty.mixed _ _ _ _ (by kernel_rfl) ?_)
    simp (disch := omega) only [go_sem, seval]
    rw [hp]
set_option maxRecDepth 100000 in
theorem rcheck_calls (Γ : Nat → Option (List AV)) (p : Pol) (h : AH) (hs : ShP p) : ACalls Tryz.prog Γ 38 [encPol p] h fun v h' => h' = h ∧ v = .int .i64 (checkF p) := by
  refine ACalls.drop ?_
  refine acalls_code (rs := [.tmp 2]) Tryz.func38 rfl rfl rfl rfl Ty.mixed (by kernel_rfl) ?_
  have c1 := fun h => rresolve_calls Γ p h hs
  have c2 := fun h => rsame_calls Γ p h hs
  have hd : checkF p = if errF p = 0 then (if (resdRs p.offices 0 p.rules && resdF p.offices p.change) = true then 0 else 200) else errF p := rfl
  have hre : resolveF p = if errF p = 0 then (resP p, 0) else (polZ, errF p) := rfl
  rw [encPol_eq p] at c1 c2 ⊢
  by_cases he : errF p = 0
  · rw [if_pos he] at hre hd
    rw [hre, encRe, encPol_eq (resP p)] at c1
    rw [encPol_eq (resP p)] at c2
    simp (disch := omega) only [go_sem, seval]
    refine ACalls.det (c1 _) ?_
    simp (disch := omega) only [go_sem, seval]
    refine ACalls.det (c2 _) ?_
    rw [hd]
    generalize (resdRs p.offices 0 p.rules && resdF p.offices p.change) = b
    simp (disch := omega) only [go_sem, seval]
    cases b <;> simp (disch := omega) only [go_sem, seval]
  · rw [if_neg he] at hre hd
    rw [hre, encRe, encPol_eq polZ] at c1
    simp (disch := omega) only [go_sem, seval]
    refine ACalls.det (c1 _) ?_
    simp (disch := omega) only [go_sem, seval]
    refine aIf.neg he ?_
    simp (disch := omega) only [go_sem, seval]
    rw [hd]
end Go.Proofs.YtjdhgaflenhljaaGreatDoor
