/- Texts joined: FrV, FrW, FrX. No conditions. -/
import Derived.Test.YtplllkjobpjaoaaGreatDoorMrFE
import Derived.Test.YtplllkjobpjaoaaGreatDoorMrFC
/- The program's checked, Compile, Change. No conditions. -/
set_option linter.unusedSimpArgs false
set_option linter.unusedVariables false
namespace Go.Proofs.YtplllkjobpjaoaaGreatDoor
open Go Go.Proofs Go.Abs

theorem perm0 {p : Pol} {kind value : Int} {hs : List (List Hd)} {who : List Int} (h : (permF p kind value hs who).2 = 0) : checkF p = 0 ∧ (0 ≤ kind ∧ kind < p.kinds.length) ∧ (0 ≤ value ∧ value ≤ 1099511627776) ∧ holdersF hs p.offices.length = true ∧ peopleF who = true := by
  rw [permF] at h
  by_cases h1 : checkF p ≠ 0
  · rw [if_pos h1] at h; exact absurd h h1
  rw [if_neg h1] at h
  by_cases h2 : kind < 0 ∨ (p.kinds.length : Int) ≤ kind ∨ value < 0 ∨ 1099511627776 < value
  · rw [if_pos h2] at h; exact absurd h (by decide)
  rw [if_neg h2] at h
  cases h3 : holdersF hs p.offices.length
  · rw [h3, if_pos rfl] at h; exact absurd h (by decide)
  rw [h3, if_neg (by decide)] at h
  cases h4 : peopleF who
  · rw [h4, if_pos rfl] at h; exact absurd h (by decide)
  exact ⟨by simpa using h1, by omega, by omega, rfl, rfl⟩
theorem change0 {p : Pol} {hs : List (List Hd)} {who : List Int} (h : (changeF p hs who).2 = 0) : checkF p = 0 ∧ holdersF hs p.offices.length = true ∧ peopleF who = true := by
  rw [changeF] at h
  by_cases h1 : checkF p ≠ 0
  · rw [if_pos h1] at h; exact absurd h h1
  rw [if_neg h1] at h
  cases h3 : holdersF hs p.offices.length
  · rw [h3, if_pos rfl] at h; exact absurd h (by decide)
  rw [h3, if_neg (by decide)] at h
  cases h4 : peopleF who
  · rw [h4, if_pos rfl] at h; exact absurd h (by decide)
  exact ⟨by simpa using h1, rfl, rfl⟩
/-- The place of the first rule of a kind. -/
def fidR (k : Int) : List Rl → Nat → Int
  | [], _ => -1
  | r :: l, i => if r.kno = k then i else fidR k l (i + 1)
theorem fidR_res {o : List Tx} {k : Int} : ∀ (l : List Rl) (i : Nat), resdRs o i l = true → (i : Int) ≤ k → k < i + l.length → fidR k l i = k
  | [], i, _, h1, h2 => by simp at h2; omega
  | r :: l, i, h, h1, h2 => by
    rw [resdRs, Bool.and_eq_true, Bool.and_eq_true, beq_iff_eq] at h
    rw [List.length_cons] at h2
    rw [fidR, h.1.1]
    split
    · omega
    · exact fidR_res l (i + 1) h.2 (by omega) (by omega)
set_option maxRecDepth 100000 in
theorem kcmp_calls (Γ : Nat → Option (List AV)) (r : Rl) (k : Int) (b : Nat) (h : AH) (hb : h[b]? = some (.row [.int .i64 k] 3)) :
    ACalls Tryz.prog Γ 19 [encRl r, .ptr (some (b, 0))] h fun v h' => h' = h ∧ v = .bool (decide (r.kno = k)) := by
  refine ACalls.drop ?_
  rw [encRl_eq]
  have g : ∀ l, (h ++ l)[b]? = some (.row [.int .i64 k] 3) := fun l => by rw [List.getElem?_append_left (List.getElem?_eq_some_iff.1 hb).1]; exact hb
  refine acalls_code (rs := [.tmp 3]) Tryz.func19 rfl rfl rfl rfl Ty.mixed (by kernel_rfl) ?_
  simp (disch := omega) only [go_sem, seval, g]
set_option maxRecDepth 100000 in
theorem findR_calls (Γ : Nat → Option (List AV)) (l : List Rl) (k : Int) (b : Nat) (h : AH) (hb : h[b]? = some (.row [.int .i64 k] 3)) (hl : l.length ≤ 1000000) :
    ACalls Tryz.prog Γ 18 [.sl (l.map encRl) .free, .func 19 [] [.ptr (some (b, 0))]] h fun v h' => h' = h ∧ v = .int .i64 (fidR k l 0) := by
  refine acalls_code (rs := [.tmp 4]) Tryz.func18 rfl rfl rfl rfl Ty.mixed (by kernel_rfl) ?_
  simp (disch := omega) only [go_sem, seval]
  refine awp_loopL (β := Unit) l [8, 7, 1, 0] (fun don _ => [(8, .int .i64 don.length), (7, .int .i64 l.length), (1, .func 19 [] [.ptr (some (b, 0))]), (0, .sl (l.map encRl) .free)]) (fun _ => h) (fun don rest _ => fidR k l 0 = fidR k rest don.length) () ?_ rfl rfl Ty.mixed (by kernel_rfl) ?_ ?_
  · simp (disch := omega) only [go_sem, seval, List.length_map]
  · rintro don x r _ hd hs
    have hlen : l.length = don.length + 1 + r.length := by rw [hd]; simp; omega
    have e1 : (l.map encRl)[don.length]? = some (encRl x) := by rw [hd]; exact rowMid ..
    have c := kcmp_calls Γ x k b h hb
    rw [encRl_eq] at e1 c
    simp (disch := omega) only [go_sem, seval, List.length_map]
    refine aIf.pos (by omega) ?_
    simp (disch := omega) only [go_sem, seval, e1, List.length_map]
    refine ACalls.detH c ?_
    simp (disch := omega) only [go_sem, seval]
    rw [fidR] at hs
    refine aIf.intro (fun hb => ?_) (fun hb => ?_) <;> simp (disch := omega) only [go_sem, seval]
    · rw [hs, if_pos hb]
    · refine roundL_next () (by rw [hs, if_neg hb, List.length_append]; rfl) ?_ rfl
      simp (disch := omega) only [go_sem, seval, List.length_append]
  · rintro _ hs
    simp (disch := omega) only [go_sem, seval]
    refine AWP.keep [0] (aCode_ok Ty.mixed _ _ _ _ (by kernel_rfl) ?_)
    simp (disch := omega) only [go_sem, seval]
    rw [hs]; rfl
set_option maxRecDepth 100000 in
theorem checked_calls (Γ : Nat → Option (List AV)) (g : Fr.Gt) (h : AH) (hg : Fr.Sh g) :
    ACalls Tryz.prog Γ 20 [Fr.encG g] h fun v h' => h' = h ∧ v = .tuple [Fr.encG (chkG g).1, .int .i64 (chkG g).2] := by
  have c := fun h => Fr.check_calls Γ g h hg
  have hd : chkG g = if Fr.checkF g = 0 then (g, 0) else (zeroG, 2) := rfl
  obtain ⟨p, n, l, rfl⟩ : ∃ p n l, g = .mk p n l := by cases g with | mk p n l => exact ⟨p, n, l, rfl⟩
  refine ACalls.dropL ?_
  rw [Fr.encG_mk] at c ⊢
  refine acalls_code (rs := [.cell 2 34, .tmp 3]) Tryz.func20 rfl rfl rfl rfl Ty.mixed (by kernel_rfl) ?_
  simp (disch := omega) only [go_sem, seval]
  refine ACalls.det (c _) ?_
  simp (disch := omega) only [go_sem, seval]
  refine aIf.intro (fun h1 => ?_) (fun h1 => ?_) <;> simp (disch := omega) only [go_sem, seval]
  · rw [hd, if_pos h1, Fr.encG_mk]
    try simp only [looseL, loose, Fr.loose_Gs]
  · rw [hd, if_neg h1, zeroG, Fr.encG_mk]
    try simp only [looseL, loose, List.map_nil]
end Go.Proofs.YtplllkjobpjaoaaGreatDoor

/- The program's Compile, Change. No conditions. -/
set_option linter.unusedSimpArgs false
set_option linter.unusedVariables false
namespace Go.Proofs.YtplllkjobpjaoaaGreatDoor
open Go Go.Proofs Go.Abs

structure FewC (p : Pol) (hs : List (List Hd)) : Prop where
  sh : ShP p
  sz : ∀ x ∈ exprs p, sizeX x ≤ 1000
  rl : p.rules.length ≤ 1000000
  n : hs.length ≤ 1000
  l : ∀ l ∈ hs, l.length ≤ 100
theorem FewC.szs {p : Pol} {hs : List (List Hd)} (h : FewC p hs) {who : List Int} (hw : who.length ≤ 1000) : Szs hs who := ⟨h.n, fun l hl => by have := h.l l hl; omega, hw⟩
set_option maxHeartbeats 1600000 in
set_option maxRecDepth 100000 in
theorem change_calls (Γ : Nat → Option (List AV)) (hΓ : Γ 0 = some kindsC) (p : Pol) (hs : List (List Hd)) (h : AH) (F : FewC p hs) :
    ACalls Tryz.prog Γ 8 [encPol p, .sl (encHl hs) .free] h fun v h' => h' = h ∧ v = .tuple [Fr.encG (chngF p hs).1, .int .i64 (chngF p hs).2] := by
  have c1 := fun h => changes_calls Γ hΓ p hs [] h F.sh F.sz F.rl (F.szs (by simp))
  have hd : chngF p hs = if (changeF p hs []).2 ≠ 0 then (zeroG, (changeF p hs []).2) else chkG (formG 0 hs p.change) := rfl
  have h0 := change0 (p := p) (hs := hs) (who := [])
  obtain ⟨⟨r1, r2⟩, hr⟩ : ∃ r, changeF p hs [] = r := ⟨_, rfl⟩
  rw [hr] at c1 hd h0
  rw [encB2] at c1
  refine ACalls.dropL ?_
  rw [encPol_eq] at *
  refine acalls_code (rs := [.cell 4 34, .tmp 5]) Tryz.func8 rfl rfl rfl rfl Ty.mixed (by kernel_rfl) ?_
  simp (disch := omega) only [go_sem, seval]
  refine ACalls.ofLoose (ACalls.det (c1 _) ?_) (by simp only [looseL, loose, loose_T, loose_Rs, loose_Xs, loose_I, loose_HH]; rfl)
  simp (disch := omega) only [go_sem, seval]
  refine aIf.intro (fun h1 => ?_) (fun h1 => ?_) <;> simp (disch := omega) only [go_sem, seval]
  rotate_left
  · rw [hd, if_pos h1, zeroG, Fr.encG_mk]
    simp only [looseL, loose, List.map_nil]
  rw [if_neg (by simpa using h1)] at hd
  obtain ⟨k1, k2, k3⟩ := h0 h1
  obtain ⟨H, hn⟩ := hd_ok k2 k3
  have hx := (check_change k1).1
  have c2 := gate_calls Γ 0 hs H p.offices false (by omega) F.l p.change hx
  have hsh : Fr.Sh (formG 0 hs p.change) := sh_form k2 hx
  have c3 := fun h => checked_calls Γ _ h hsh
  rw [← hd] at c3
  generalize chngF p hs = r at c3
  obtain ⟨⟨gp, gn, gl⟩, e⟩ := r
  rw [GatC, encCm, cmC, encX_eq] at c2
  obtain ⟨fp, fn, fl, hf⟩ : ∃ a n l, formG 0 hs p.change = .mk a n l := by cases formG 0 hs p.change with | mk a n l => exact ⟨a, n, l, rfl⟩
  rw [hf, Fr.encG_mk] at c2 c3
  rw [Fr.encG_mk] at c3 ⊢
  refine ACalls.det (c2 _) ?_
  simp (disch := omega) only [go_sem, seval]
  refine ACalls.det (c3 _) ?_
  simp (disch := omega) only [go_sem, seval]
set_option maxHeartbeats 1600000 in
set_option maxRecDepth 100000 in
theorem compile_calls (Γ : Nat → Option (List AV)) (hΓ : Γ 0 = some kindsC) (p : Pol) (kind value : Int) (hs : List (List Hd)) (h : AH) (F : FewC p hs) :
    ACalls Tryz.prog Γ 6 [encPol p, .int .i64 kind, .int .i64 value, .sl (encHl hs) .free] h fun v h' => h' = h ∧ v = .tuple [Fr.encG (compF p kind value hs).1, .int .i64 (compF p kind value hs).2] := by
  have c1 := fun h => permits_calls Γ hΓ p kind value hs [] h F.sh F.sz F.rl (F.szs (by simp))
  have hd : compF p kind value hs = if (permF p kind value hs []).2 ≠ 0 then (zeroG, (permF p kind value hs []).2) else chkG (((p.rules[kind.toNat]?).map fun r => formG value hs r.x).getD zeroG) := rfl
  have h0 := perm0 (p := p) (kind := kind) (value := value) (hs := hs) (who := [])
  obtain ⟨⟨r1, r2⟩, hr⟩ : ∃ r, permF p kind value hs [] = r := ⟨_, rfl⟩
  rw [hr] at c1 hd h0
  rw [encB2] at c1
  refine ACalls.dropL ?_
  rw [encPol_eq] at *
  refine acalls_code (rs := [.cell 8 34, .tmp 9]) Tryz.func6 rfl rfl rfl rfl Ty.mixed (by kernel_rfl) ?_
  simp (disch := omega) only [go_sem, seval]
  refine ACalls.ofLoose (ACalls.det (c1 _) ?_) (by simp only [looseL, loose, loose_T, loose_Rs, loose_Xs, loose_I, loose_HH]; rfl)
  simp (disch := omega) only [go_sem, seval]
  refine aIf.intro (fun h1 => ?_) (fun h1 => ?_) <;> simp (disch := omega) only [go_sem, seval]
  rotate_left
  · rw [hd, if_pos h1, zeroG, Fr.encG_mk]
    simp only [looseL, loose, List.map_nil]
  rw [if_neg (by simpa using h1)] at hd
  obtain ⟨k1, kk, kv, k2, k3⟩ := h0 h1
  obtain ⟨H, hn⟩ := hd_ok k2 k3
  obtain ⟨r, hr, e1, hrm⟩ := rule_at k1 kk
  have hx := (check_rule k1 hrm).1
  have hlen := check_lens k1
  have c2 := gate_calls Γ value hs H p.offices true (by omega) F.l r.x hx
  have hsh : Fr.Sh (formG value hs r.x) := sh_form k2 hx
  have c3 := fun h => checked_calls Γ _ h hsh
  rw [hr] at hd
  have hd2 : compF p kind value hs = chkG (formG value hs r.x) := hd
  rw [← hd2] at c3
  generalize compF p kind value hs = q at c3
  obtain ⟨⟨gp, gn, gl⟩, e⟩ := q
  rw [GatC, encCm, cmC, encX_eq] at c2
  obtain ⟨fp, fn, fl, hf⟩ : ∃ p n l, formG value hs r.x = .mk p n l := by cases formG value hs r.x with | mk p n l => exact ⟨p, n, l, rfl⟩
  rw [hf, Fr.encG_mk] at c2 c3
  rw [Fr.encG_mk] at c3 ⊢
  have hfi : fidR kind p.rules 0 = kind := fidR_res p.rules 0 (check_ok k1).2.2.2.1 (by omega) (by omega)
  rw [encRl_eq] at e1
  refine ACalls.det (findR_calls Γ p.rules kind (h.length + 1) _ (by simp) F.rl) ?_
  rw [hfi]
  simp (disch := omega) only [go_sem, seval]
  refine aIf.neg (by omega) ?_
  simp (disch := omega) only [go_sem, seval]
  refine ⟨by omega, ?_⟩
  rw [e1]
  simp (disch := omega) only [go_sem, seval]
  refine ACalls.det (c2 _) ?_
  simp (disch := omega) only [go_sem, seval]
  refine ACalls.det (c3 _) ?_
  simp (disch := omega) only [go_sem, seval]
end Go.Proofs.YtplllkjobpjaoaaGreatDoor

/- FormulasPermits. No conditions. -/
set_option linter.unusedSimpArgs false
set_option linter.unusedVariables false
namespace Go.Proofs.YtplllkjobpjaoaaGreatDoor
open Go Go.Proofs Go.Abs

theorem fewPF_C {p : Pol} {hs : List (List Hd)} (hp : ShP p) (h : fewPF p hs = true) : FewC p hs := by
  simp only [fewPF, Bool.and_eq_true, decide_eq_true_eq, List.all_eq_true] at h
  obtain ⟨⟨h1, h2, h3, h4⟩, h5, h6, h7⟩ := h
  refine ⟨hp, fun x hx => ?_, by omega, by omega, fun l hl => by have := h7 l hl; omega⟩
  rcases List.mem_append.1 hx with hx | hx
  · obtain ⟨r, hr, rfl⟩ := List.mem_map.1 hx
    have := h6 r hr; omega
  · rw [List.mem_singleton] at hx; rw [hx]; omega
end Go.Proofs.YtplllkjobpjaoaaGreatDoor
