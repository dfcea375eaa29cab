/- Texts joined: FrP, FrQ. No conditions. -/
import Derived.Test.YtplllkjobpjaoaaGreatDoorMrFB
import Derived.Test.YtplllkjobpjaoaaGreatDoorMrEO
/- Formulas of policies, plain. No conditions. -/
set_option linter.unusedSimpArgs false
set_option linter.unusedVariables false
namespace Go.Proofs.YtplllkjobpjaoaaGreatDoor
open Go Go.Proofs Go.Abs

def leafG (n : Int) : Fr.Gt := .mk n 0 []
def zeroG : Fr.Gt := .mk 0 0 []
/-- The leaves of holders, each as often as it weighs. -/
def repG (w : Hd → Int) (l : List Hd) : List Fr.Gt := l.flatMap fun y => List.replicate (w y).toNat (leafG y.person)
mutual
def formG (v : Int) (hs : List (List Hd)) : Ex → Fr.Gt
  | .mk k n no _ l =>
    if k = 1 then .mk (-1) 1 (repG (fun _ => 1) (rowH hs no))
    else if k = 2 then .mk (-1) n (repG Hd.weight (rowH hs no))
    else if k = 3 then .mk (-1) n (formGs v hs l)
    else (formGs v hs l).getD (if v ≤ n then 0 else 1) zeroG
def formGs (v : Int) (hs : List (List Hd)) : List Ex → List Fr.Gt
  | [] => []
  | x :: r => formG v hs x :: formGs v hs r
end
theorem formGs_map (v : Int) (hs : List (List Hd)) (l : List Ex) : formGs v hs l = l.map (formG v hs) := by
  induction l with
  | nil => rfl
  | cons x r ih => rw [formGs, ih, List.map_cons]
theorem formG_eq (v : Int) (hs : List (List Hd)) (x : Ex) : formG v hs x =
    if x.k = 1 then .mk (-1) 1 (repG (fun _ => 1) (rowH hs x.no))
    else if x.k = 2 then .mk (-1) x.n (repG Hd.weight (rowH hs x.no))
    else if x.k = 3 then .mk (-1) x.n (x.l.map (formG v hs))
    else (x.l.map (formG v hs)).getD (if v ≤ x.n then 0 else 1) zeroG := by
  cases x with
  | mk k n no s l => rw [formG, formGs_map]; rfl
def chkG (g : Fr.Gt) : Fr.Gt × Int := if Fr.checkF g = 0 then (g, 0) else (zeroG, 2)
def compF (p : Pol) (kind value : Int) (hs : List (List Hd)) : Fr.Gt × Int :=
  if (permF p kind value hs []).2 ≠ 0 then (zeroG, (permF p kind value hs []).2)
  else chkG (((p.rules[kind.toNat]?).map fun r => formG value hs r.x).getD zeroG)
def chngF (p : Pol) (hs : List (List Hd)) : Fr.Gt × Int :=
  if (changeF p hs []).2 ≠ 0 then (zeroG, (changeF p hs []).2) else chkG (formG 0 hs p.change)

/-! ### The formula fits -/
theorem rep_len (w : Hd → Int) (hw : ∀ l : List Hd, True) : ∀ l : List Hd, (∀ y ∈ l, w y ≤ 64) → (repG w l).length ≤ 64 * l.length
  | [], _ => by simp [repG]
  | y :: r, h => by
    have h1 := h y (by simp)
    have h2 := rep_len w hw r fun z hz => h z (by simp [hz])
    rw [repG] at h2 ⊢
    rw [List.flatMap_cons, List.length_append, List.length_replicate, List.length_cons]; omega
theorem rep_mem {w : Hd → Int} {l : List Hd} {g : Fr.Gt} (h : g ∈ repG w l) : ∃ y ∈ l, g = leafG y.person := by
  obtain ⟨y, hy, hg⟩ := List.mem_flatMap.1 h
  exact ⟨y, hy, List.eq_of_mem_replicate hg⟩
theorem sh_leafG {n : Int} (h : 0 ≤ n ∧ n < 64) : Fr.Sh (leafG n) := .mk (by simp) (fun x hx => by cases hx) (by omega) (by omega) (by omega) (by omega)
theorem sh_rep {w : Hd → Int} {l : List Hd} (hp : ∀ y ∈ l, 0 ≤ y.person ∧ y.person < 64) : ∀ g ∈ repG w l, Fr.Sh g := fun g hg => by
  obtain ⟨y, hy, rfl⟩ := rep_mem hg
  exact sh_leafG (hp y hy)
theorem sh_zeroG : Fr.Sh zeroG := .mk (by simp) (fun x hx => by cases hx) (by omega) (by omega) (by omega) (by omega)
theorem row_line {hs : List (List Hd)} {n : Int} (h : holdersF hs n = true) (no : Int) : (∀ y ∈ rowH hs no, 1 ≤ y.weight ∧ y.weight ≤ 64) ∧ (∀ y ∈ rowH hs no, 0 ≤ y.person ∧ y.person < 64) ∧ (rowH hs no).length ≤ 64 := by
  by_cases hne : rowH hs no = []
  · rw [hne]; exact ⟨(fun y hy => by cases hy), (fun y hy => by cases hy), by simp⟩
  · obtain ⟨y, hy⟩ := List.exists_mem_of_ne_nil _ hne
    rw [holdersF, Bool.and_eq_true, List.all_eq_true] at h
    have := line_facts (h.1 _ (rowH_in hy))
    exact ⟨this.1, this.2.2.1, this.2.2.2⟩
theorem sh_form_k {v : Int} {hs : List (List Hd)} {n : Int} (h : holdersF hs n = true) (o : List Tx) (u : Bool) : ∀ (m : Nat) (x : Ex), SizeOf.sizeOf x < m → okX o u x = true → Fr.Sh (formG v hs x)
  | 0, _, hk, _ => absurd hk (Nat.not_lt_zero _)
  | m + 1, x, hsz, hok => by
    have ih : ∀ y ∈ x.l, Fr.Sh (formG v hs y) := fun y hy => sh_form_k h o u m y (by cases x; exact memX_sz hy hsz) (okX_sub hok hy)
    have htop := okX_top hok
    have hk := okF_kind htop
    obtain ⟨r1, r2, r3⟩ := row_line h x.no
    rw [formG_eq]
    obtain e | e | e | e : x.k = 1 ∨ x.k = 2 ∨ x.k = 3 ∨ x.k = 4 := by omega
    · rw [if_pos e]
      have := rep_len (fun _ => 1) (fun _ => trivial) (rowH hs x.no) (fun _ _ => by decide)
      exact .mk (by omega) (sh_rep r2) (by omega) (by omega) (by omega) (by omega)
    · have hw := okF_weight htop e
      rw [if_neg (by omega), if_pos e]
      have := rep_len Hd.weight (fun _ => trivial) (rowH hs x.no) (fun y hy => (r1 y hy).2)
      exact .mk (by omega) (sh_rep r2) (by omega) (by omega) (by omega) (by omega)
    · have ho := okF_of htop e
      rw [if_neg (by omega), if_neg (by omega), if_pos e]
      exact .mk (by rw [List.length_map]; omega) (fun g hg => by obtain ⟨y, hy, rfl⟩ := List.mem_map.1 hg; exact ih y hy) (by omega) (by omega) (by omega) (by omega)
    · rw [if_neg (by omega), if_neg (by omega), if_neg (by omega), List.getD_eq_getElem?_getD, List.getElem?_map]
      cases hg : x.l[if v ≤ x.n then 0 else 1]? with
      | none => exact sh_zeroG
      | some y => exact ih y (List.mem_of_getElem? hg)
theorem sh_form {v : Int} {hs : List (List Hd)} {n : Int} (h : holdersF hs n = true) {o : List Tx} {u : Bool} {x : Ex} (hok : okX o u x = true) : Fr.Sh (formG v hs x) := sh_form_k h o u _ x (Nat.lt_succ_self _) hok

/-! ### A formula holds exactly if the expression is fulfilled -/
end Go.Proofs.YtplllkjobpjaoaaGreatDoor

/- The reference's parts, FewPolicy, Same. No conditions. -/
set_option linter.unusedSimpArgs false
set_option linter.unusedVariables false
namespace Go.Proofs.YtplllkjobpjaoaaGreatDoor
open Go Go.Proofs Go.Abs

set_option maxRecDepth 100000 in
theorem fparts_calls_k (Γ : Nat → Option (List AV)) : ∀ (m : Nat) (x : Ex) (lim : Nat) (h : AH), SizeOf.sizeOf x < m → ShX x → lim ≤ 1000000 → ACalls Tryz.prog Γ 16 [encX x, .int .i64 lim] h fun v h' => h' = h ∧ v = .int .i64 (min (sizeX x) (lim + 1) : Nat)
  | 0, _, _, _, hk, _, _ => absurd hk (Nat.not_lt_zero _)
  | m + 1, .mk k n no s l, lim, h, hsz, hs, hlim => by
    refine ACalls.drop ?_
    refine acalls_code (rs := [.tmp 4]) Tryz.func16 rfl rfl rfl rfl Ty.mixed (by kernel_rfl) ?_
    simp only [encX_mk]
    simp (disch := omega) only [go_sem, seval]
    have hl1 := hs.len
    refine awp_loopL (β := Unit) l [1, 2, 5, 6] (fun don _ => [(1, .int .i64 lim), (2, .ptr (some (h.length, 0))), (5, .int .i64 (min (sizeXs don + 1) (lim + 1) : Nat)), (6, .int .i64 don.length)]) (fun _ => h ++ [.row [.int .i64 k, .int .i64 n, .int .i64 no, .str ⟨⟨s⟩⟩, .sl (l.map encX) .free] 26]) (fun _ _ _ => True) () ?_ rfl trivial Ty.mixed (by kernel_rfl) ?_ ?_
    · simp (disch := omega) only [go_sem, seval, List.length_nil, sizeXs]
      simp
    · rintro don x r _ hd _
      have hlen : l.length = don.length + 1 + r.length := by rw [hd]; simp; omega
      have e1 : (l.map encX)[don.length]? = some (encX x) := by rw [hd]; exact rowMid ..
      simp (disch := omega) only [go_sem, seval, List.length_map]
      refine aIf.pos (by omega) ?_
      simp (disch := omega) only [go_sem, seval]
      have hb := sizeXs_app don [x]
      simp only [sizeXs, Nat.add_zero] at hb
      have hb2 : sizeXs l = sizeXs don + (sizeX x + sizeXs r) := by rw [hd, sizeXs_app, sizeXs]
      have hp := size_pos x
      refine aIf.intro (fun hc => ?_) (fun hc => ?_) <;> simp (disch := omega) only [go_sem, seval, e1]
      · refine ACalls.det ((fparts_calls_k Γ m x (lim - (sizeXs don + 1)) _ (memX_sz (by rw [hd]; simp) hsz) (hs.mem x (by rw [hd]; simp)) (by omega)).args (by rw [show ((lim - (sizeXs don + 1) : Nat) : Int) = lim - (min (sizeXs don + 1) (lim + 1) : Nat) by omega])) ?_
        simp (disch := omega) only [go_sem, seval]
        refine roundL_next () trivial ?_ rfl
        simp (disch := omega) only [go_sem, seval, List.length_append, hb]
        rw [show (((min (sizeXs don + 1) (lim + 1) : Nat) : Int) + ((min (sizeX x) (lim - (sizeXs don + 1) + 1) : Nat) : Int)) = ((min (sizeXs don + sizeX x + 1) (lim + 1) : Nat) : Int) by omega]
      · refine AWP.keep [5] (aCode_ok Ty.mixed _ _ _ _ (by kernel_rfl) ?_)
        simp (disch := omega) only [go_sem, seval]
        rw [sizeX]
        congr 1
        omega
    · rintro _ _
      simp (disch := omega) only [go_sem, seval, List.length_map]
      refine AWP.keep [5] (aCode_ok Ty.mixed _ _ _ _ (by kernel_rfl) ?_)
      simp (disch := omega) only [go_sem, seval]
      rw [sizeX]
theorem fparts_calls (Γ : Nat → Option (List AV)) (x : Ex) (lim : Nat) (h : AH) (hs : ShX x) (hlim : lim ≤ 1000000) : ACalls Tryz.prog Γ 16 [encX x, .int .i64 lim] h fun v h' => h' = h ∧ v = .int .i64 (min (sizeX x) (lim + 1) : Nat) :=
  fparts_calls_k Γ _ x lim h (Nat.lt_succ_self _) hs hlim
def fewPF (p : Pol) (hs : List (List Hd)) : Bool := decide (p.kinds.length ≤ 20 ∧ p.offices.length ≤ 40 ∧ p.rules.length ≤ 20 ∧ hs.length ≤ 40) && (decide (sizeX p.change ≤ 60) && (p.rules.all (fun r => decide (sizeX r.x ≤ 60)) && hs.all (fun l => decide (l.length ≤ 10))))
set_option maxHeartbeats 1600000 in
set_option maxRecDepth 100000 in
theorem fewp_calls (Γ : Nat → Option (List AV)) (p : Pol) (hs : List (List Hd)) (h : AH) (hp : ShP p) (hl : hs.length ≤ 9223372036854775807) (hl2 : ∀ l ∈ hs, l.length ≤ 9223372036854775807) : ACalls Tryz.prog Γ 5 [encPol p, .sl (encHl hs) .free] h fun v h' => h' = h ∧ v = .bool (fewPF p hs) := by
  have c1 := fun x h hx => fparts_calls Γ x 60 h hx (by omega)
  have hk := hp.kinds
  have ho := hp.offices
  have hr := hp.rules
  have hd : fewPF p hs = (decide (p.kinds.length ≤ 20 ∧ p.offices.length ≤ 40 ∧ p.rules.length ≤ 20 ∧ hs.length ≤ 40) && (decide (sizeX p.change ≤ 60) && (p.rules.all (fun r => decide (sizeX r.x ≤ 60)) && hs.all (fun l => decide (l.length ≤ 10))))) := rfl
  refine ACalls.drop ?_
  rw [encPol_eq]
  refine acalls_code (rs := [.tmp 4]) Tryz.func5 rfl rfl rfl rfl Ty.mixed (by kernel_rfl) ?_
  simp (disch := omega) only [go_sem, seval, encT_len]
  refine aIf.intro (fun h1 => ?_) (fun h1 => ?_) <;> simp (disch := omega) only [go_sem, seval, encT_len]
  · rw [hd, decide_eq_false (by omega)]; rfl
  refine aIf.intro (fun h2 => ?_) (fun h2 => ?_) <;> simp (disch := omega) only [go_sem, seval, encT_len, List.length_map]
  · rw [hd, decide_eq_false (by omega)]; rfl
  refine aIf.intro (fun h3 => ?_) (fun h3 => ?_) <;> simp (disch := omega) only [go_sem, seval, encT_len, encHl_len, List.length_map]
  · rw [hd, decide_eq_false (by omega)]; rfl
  refine aIf.intro (fun h3b => ?_) (fun h3b => ?_) <;> simp (disch := omega) only [go_sem, seval, encT_len, encHl_len, List.length_map]
  · rw [hd, decide_eq_false (by omega)]; rfl
  rw [decide_eq_true (by omega), Bool.true_and] at hd
  have c3 := fun h => c1 p.change h hp.change
  rw [encX_eq] at c3
  refine ACalls.det (c3 _) ?_
  simp (disch := omega) only [go_sem, seval]
  refine aIf.intro (fun h4 => ?_) (fun h4 => ?_) <;> simp (disch := omega) only [go_sem, seval]
  · rw [hd, decide_eq_false (by omega)]; rfl
  rw [decide_eq_true (by omega), Bool.true_and] at hd
  refine awp_loopL (β := Unit) p.rules [1, 2, 5] (fun don _ => [(1, .sl (encHl hs) .free), (2, .ptr (some (h.length, 0))), (5, .int .i64 don.length)]) (fun _ => h ++ [.row [.str ⟨⟨p.name⟩⟩, .sl (encT p.kinds) .free, .sl (encT p.offices) .free, .sl (p.rules.map encRl) .free, .int .i64 p.change.k, .int .i64 p.change.n, .int .i64 p.change.no, .str ⟨⟨p.change.name⟩⟩, .sl (p.change.l.map encX) .free, .int .i64 p.mode] 28]) (fun don _ _ => don.all (fun r => decide (sizeX r.x ≤ 60)) = true) () ?_ rfl rfl Ty.mixed (by kernel_rfl) ?_ ?_
  · simp (disch := omega) only [go_sem, seval, List.length_nil]
  · rintro don x r _ hdn hI
    have hlen : p.rules.length = don.length + 1 + r.length := by rw [hdn]; simp; omega
    have e1 : (p.rules.map encRl)[don.length]? = some (encRl x) := by rw [hdn]; exact rowMid ..
    have hx : x ∈ p.rules := by rw [hdn]; simp
    have c4 := fun h => c1 x.x h (hp.rulesX x hx)
    rw [encX_eq] at c4
    rw [encRl_eq] at e1
    simp (disch := omega) only [go_sem, seval, List.length_map]
    refine aIf.pos (by omega) ?_
    simp (disch := omega) only [go_sem, seval, e1]
    refine ACalls.det (c4 _) ?_
    simp (disch := omega) only [go_sem, seval]
    refine aIf.intro (fun h5 => ?_) (fun h5 => ?_) <;> simp (disch := omega) only [go_sem, seval]
    · rw [hd, hdn, List.all_append, List.all_cons, decide_eq_false (by omega)]; simp
    · refine roundL_next () ?_ ?_ rfl
      · rw [List.all_append, hI, List.all_cons, decide_eq_true (by omega)]; rfl
      · simp (disch := omega) only [go_sem, seval, List.length_append]
  · rintro _ hI
    simp (disch := omega) only [go_sem, seval, List.length_map]
    rw [hI, Bool.true_and] at hd
    refine AWP.keep [1] (aCode_ok Ty.mixed _ _ _ _ (by kernel_rfl) ?_)
    simp (disch := omega) only [go_sem, seval]
    refine awp_loopL (β := Unit) hs [1, 6] (fun don _ => [(1, .sl (encHl hs) .free), (6, .int .i64 don.length)]) (fun _ => h ++ [.row [.str ⟨⟨p.name⟩⟩, .sl (encT p.kinds) .free, .sl (encT p.offices) .free, .sl (p.rules.map encRl) .free, .int .i64 p.change.k, .int .i64 p.change.n, .int .i64 p.change.no, .str ⟨⟨p.change.name⟩⟩, .sl (p.change.l.map encX) .free, .int .i64 p.mode] 28]) (fun don _ _ => don.all (fun l => decide (l.length ≤ 10)) = true) () ?_ rfl rfl Ty.mixed (by kernel_rfl) ?_ ?_
    · simp (disch := omega) only [go_sem, seval, List.length_nil]
    · rintro don x r _ hdn hI2
      have hlen : hs.length = don.length + 1 + r.length := by rw [hdn]; simp; omega
      have e1 : (encHl hs)[don.length]? = some (.sl (x.map encHd) .free) := by rw [hdn]; exact rowMid ..
      have hxl := hl2 x (by rw [hdn]; simp)
      simp (disch := omega) only [go_sem, seval, encHl_len]
      refine aIf.pos (by omega) ?_
      simp (disch := omega) only [go_sem, seval, e1, List.length_map]
      refine aIf.intro (fun h5 => ?_) (fun h5 => ?_) <;> simp (disch := omega) only [go_sem, seval]
      · rw [hd, hdn, List.all_append, List.all_cons, decide_eq_false (by omega)]; simp
      · refine roundL_next () ?_ ?_ rfl
        · rw [List.all_append, hI2, List.all_cons, decide_eq_true (by omega)]; rfl
        · simp (disch := omega) only [go_sem, seval, List.length_append]
    · rintro _ hI2
      simp (disch := omega) only [go_sem, seval, encHl_len]
      refine AWP.keep [] (aCode_ok Ty.mixed _ _ _ _ (by kernel_rfl) ?_)
      simp (disch := omega) only [go_sem, seval]
      rw [hd, hI2]
end Go.Proofs.YtplllkjobpjaoaaGreatDoor
