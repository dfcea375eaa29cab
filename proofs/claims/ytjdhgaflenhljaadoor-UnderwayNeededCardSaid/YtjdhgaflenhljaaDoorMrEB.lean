/- Texts joined: PolE, PolF, PolG, PolH, PolI, PolJ. No conditions. -/
import Derived.Test.YtjdhgaflenhljaaDoorMrEA
/- The reference's Index, Parts, Depth, large. No conditions. -/
set_option linter.unusedSimpArgs false
set_option linter.unusedVariables false
namespace Go.Proofs.YtjdhgaflenhljaaDoor
open Go Go.Proofs Go.Abs

theorem encT_get (don r : List Tx) (x : Tx) : (encT (don ++ x :: r))[don.length]? = some (.str ⟨⟨x⟩⟩) := by simp [encT]
/-- Lists fit, numbers fit. -/
inductive ShX : Ex → Prop
  | mk {k n no : Int} {s : Tx} {l : List Ex} (h1 : l.length ≤ 9223372036854775807) (h2 : ∀ x ∈ l, ShX x) (h3 : s.length ≤ 9223372036854775807) (h4 : -9223372036854775808 ≤ n) (h5 : n ≤ 9223372036854775807) : ShX (.mk k n no s l)
theorem ShX.len {k n no : Int} {s : Tx} {l : List Ex} (h : ShX (.mk k n no s l)) : l.length ≤ 9223372036854775807 := by cases h; assumption
theorem ShX.mem {k n no : Int} {s : Tx} {l : List Ex} (h : ShX (.mk k n no s l)) : ∀ x ∈ l, ShX x := by cases h; assumption
theorem ShX.txt {k n no : Int} {s : Tx} {l : List Ex} (h : ShX (.mk k n no s l)) : s.length ≤ 9223372036854775807 := by cases h; assumption
theorem ShX.num {k n no : Int} {s : Tx} {l : List Ex} (h : ShX (.mk k n no s l)) : -9223372036854775808 ≤ n ∧ n ≤ 9223372036854775807 := by cases h; exact ⟨by assumption, by assumption⟩
theorem len_mid {α : Type} {don r : List α} {x : α} {k : Nat} (h : (don ++ x :: r).length ≤ k) : don.length + 1 + r.length ≤ k := by simp at h; omega
theorem rowMid {α : Type} (f : α → AV) (don r : List α) (x : α) : ((don ++ x :: r).map f)[don.length]? = some (f x) := by simp
set_option maxRecDepth 100000 in
theorem rparts_calls_k (Γ : Nat → Option (List AV)) : ∀ (m : Nat) (x : Ex) (lim : Nat) (h : AH), SizeOf.sizeOf x < m → ShX x → lim ≤ 1000000 → ACalls Tryd.prog Γ 45 [encX x, .int .i64 lim] h fun v h' => h' = h ∧ v = .int .i64 (min (sizeX x) (lim + 1) : Nat)
  | 0, _, _, _, hk, _, _ => absurd hk (Nat.not_lt_zero _)
  | m + 1, .mk k n no s l, lim, h, hsz, hs, hlim => by
    refine ACalls.drop ?_
    refine acalls_code (rs := [.tmp 4]) Tryd.func45 rfl rfl rfl rfl Ty.mixed (by kernel_rfl) ?_
    simp only [encX_mk]
    simp (disch := omega) only [go_sem, seval]
    have hl1 := hs.len
    refine awp_loopL (β := Unit) l [1, 2, 5, 6] (fun don _ => [(1, .int .i64 lim), (2, .ptr (some (h.length, 0))), (5, .int .i64 (min (sizeXs don + 1) (lim + 1) : Nat)), (6, .int .i64 don.length)]) (fun _ => h ++ [.row [.int .i64 k, .int .i64 n, .int .i64 no, .str ⟨⟨s⟩⟩, .sl (l.map encX) .free] 41]) (fun _ _ _ => True) () ?_ rfl trivial Ty.mixed (by kernel_rfl) ?_ ?_
    · simp (disch := omega) only [go_sem, seval, List.length_nil, sizeXs]
      simp
    · rintro don x r _ hd _
      have hlen : l.length = don.length + 1 + r.length := by rw [hd]; simp; omega
      have e1 : (l.map encX)[don.length]? = some (encX x) := by rw [hd]; exact rowMid ..
      simp (disch := omega) only [go_sem, seval, List.length_map]
      refine aIf.pos (by omega) ?_
      simp (disch := omega) only [go_sem, seval]
      have hb := sizeXs_app don [x]
      simp only [sizeXs, Nat.add_zero] at hb
      have hb2 : sizeXs l = sizeXs don + (sizeX x + sizeXs r) := by rw [hd, sizeXs_app, sizeXs]
      have hp := size_pos x
      refine aIf.intro (fun hc => ?_) (fun hc => ?_) <;> simp (disch := omega) only [go_sem, seval, e1]
      · refine ACalls.det ((rparts_calls_k Γ m x (lim - (sizeXs don + 1)) _ (memX_sz (by rw [hd]; simp) hsz) (hs.mem x (by rw [hd]; simp)) (by omega)).args (by rw [show ((lim - (sizeXs don + 1) : Nat) : Int) = lim - (min (sizeXs don + 1) (lim + 1) : Nat) by omega])) ?_
        simp (disch := omega) only [go_sem, seval]
        refine roundL_next () trivial ?_ rfl
        simp (disch := omega) only [go_sem, seval, List.length_append, hb]
        rw [show (((min (sizeXs don + 1) (lim + 1) : Nat) : Int) + ((min (sizeX x) (lim - (sizeXs don + 1) + 1) : Nat) : Int)) = ((min (sizeXs don + sizeX x + 1) (lim + 1) : Nat) : Int) by omega]
      · refine AWP.keep [5] (aCode_ok Ty.mixed _ _ _ _ (by kernel_rfl) ?_)
        simp (disch := omega) only [go_sem, seval]
        rw [sizeX]
        congr 1
        omega
    · rintro _ _
      simp (disch := omega) only [go_sem, seval, List.length_map]
      refine AWP.keep [5] (aCode_ok Ty.mixed _ _ _ _ (by kernel_rfl) ?_)
      simp (disch := omega) only [go_sem, seval]
      rw [sizeX]
theorem rparts_calls (Γ : Nat → Option (List AV)) (x : Ex) (lim : Nat) (h : AH) (hs : ShX x) (hlim : lim ≤ 1000000) : ACalls Tryd.prog Γ 45 [encX x, .int .i64 lim] h fun v h' => h' = h ∧ v = .int .i64 (min (sizeX x) (lim + 1) : Nat) :=
  rparts_calls_k Γ _ x lim h (Nat.lt_succ_self _) hs hlim
end Go.Proofs.YtjdhgaflenhljaaDoor

/- The reference's tooLarge, distinct, named, names. No conditions. -/
set_option linter.unusedSimpArgs false
set_option linter.unusedVariables false
namespace Go.Proofs.YtjdhgaflenhljaaDoor
open Go Go.Proofs Go.Abs

structure ShP (p : Pol) : Prop where
  name : p.name.length ≤ 9223372036854775807
  kinds : p.kinds.length ≤ 9223372036854775807
  kindsT : ∀ s ∈ p.kinds, s.length ≤ 9223372036854775807
  offices : p.offices.length ≤ 9223372036854775807
  officesT : ∀ s ∈ p.offices, s.length ≤ 9223372036854775807
  rules : p.rules.length ≤ 9223372036854775807
  rulesX : ∀ r ∈ p.rules, ShX r.x
  rulesK : ∀ r ∈ p.rules, r.kind.length ≤ 9223372036854775807
  change : ShX p.change
/-- A policy's cells, its expression's one by one. -/
def chC (x : Ex) : List AV := [.int .i64 x.k, .int .i64 x.n, .int .i64 x.no, .str ⟨⟨x.name⟩⟩, .sl (x.l.map encX) .free]
theorem encX_chC (x : Ex) : encX x = .agg (chC x) := by cases x; simp [encX_mk, chC, Ex.k, Ex.n, Ex.no, Ex.name, Ex.l]
theorem encPol_eq (p : Pol) : encPol p = .agg [.str ⟨⟨p.name⟩⟩, .sl (encT p.kinds) .free, .sl (encT p.offices) .free, .sl (p.rules.map encRl) .free, .int .i64 p.change.k, .int .i64 p.change.n, .int .i64 p.change.no, .str ⟨⟨p.change.name⟩⟩, .sl (p.change.l.map encX) .free, .int .i64 p.mode] := by
  simp [encPol, polC, encX_chC, chC, AV.cells]
theorem encRl_eq (r : Rl) : encRl r = .agg [.str ⟨⟨r.kind⟩⟩, .int .i64 r.kno, .int .i64 r.think, .int .i64 r.x.k, .int .i64 r.x.n, .int .i64 r.x.no, .str ⟨⟨r.x.name⟩⟩, .sl (r.x.l.map encX) .free] := by
  simp [encRl, encX_chC, chC, AV.cells]
theorem encX_eq (x : Ex) : encX x = .agg [.int .i64 x.k, .int .i64 x.n, .int .i64 x.no, .str ⟨⟨x.name⟩⟩, .sl (x.l.map encX) .free] := encX_chC x
end Go.Proofs.YtjdhgaflenhljaaDoor

/- The reference's formedExpr, formed. No conditions. -/
set_option linter.unusedSimpArgs false
set_option linter.unusedVariables false
namespace Go.Proofs.YtjdhgaflenhljaaDoor
open Go Go.Proofs Go.Abs

theorem nil_eq (s : Tx) : (s == []) = s.isEmpty := by cases s <;> rfl
theorem ruleF_app (k : Tx) (r : Rl) : ∀ (ks : List Tx) (rs : List Rl) (ks2 : List Tx) (rs2 : List Rl), ks.length = rs.length → ruleF (ks ++ k :: ks2) (rs ++ r :: rs2) = (ruleF ks rs && ((r.kind == k) && decide (0 ≤ r.think ∧ r.think ≤ 1099511627775)) && ruleF ks2 rs2)
  | [], [], ks2, rs2, _ => by simp [ruleF]
  | [], _ :: _, _, _, h => by simp at h
  | _ :: _, [], _, _, h => by simp at h
  | a :: ks, b :: rs, ks2, rs2, h => by
    rw [List.cons_append, List.cons_append, ruleF, ruleF, ruleF_app k r ks rs ks2 rs2 (by simpa using h)]
    simp only [Bool.and_assoc]
theorem ruleF_nil (ks : List Tx) : ruleF ks [] = true := by cases ks <;> rfl
end Go.Proofs.YtjdhgaflenhljaaDoor

/- The reference's resolved, Resolve. No conditions. -/
set_option linter.unusedSimpArgs false
set_option linter.unusedVariables false
namespace Go.Proofs.YtjdhgaflenhljaaDoor
open Go Go.Proofs Go.Abs

theorem OwnAt.len {K K' j : AH} {n : Nat} {own : Abs.Own} (ho : OwnAt K j n own) (e : K.length = K'.length) : OwnAt K' j n own := by
  cases own with
  | full => trivial
  | free => exact ho
  | arena i => obtain ⟨i', h1, h2⟩ := ho; exact ⟨i', by rw [h1, e], h2⟩
theorem resX_mk (o : List Tx) (k n no : Int) (s : Tx) (l : List Ex) : resX o (.mk k n no s l) = .mk k n (wantF o (.mk k n no s l)) s (l.map (resX o)) := by rw [resX, resXs_map]
def rdK (o : List Tx) (h : AH) (k n no w : Int) (s : Tx) (l dn : List Ex) (own : Abs.Own) : AH := h ++ [.row [.int .i64 k, .int .i64 n, .int .i64 no, .str ⟨⟨s⟩⟩, .sl (l.map encX) .free] 41, .row [.int .i64 0, .int .i64 0, .int .i64 0, .str ⟨#[]⟩, .sl [] .full] 41, .row [.int .i64 k, .int .i64 n, .int .i64 w, .str ⟨⟨s⟩⟩, .sl (dn.map fun y => encX (resX o y)) own] 41]
theorem rows_res (o : List Tx) (l : List Ex) : RowsOK 5 (l.map fun y => encX (resX o y)) := by
  have := rowsOK_X (l.map (resX o))
  rwa [List.map_map] at this
end Go.Proofs.YtjdhgaflenhljaaDoor

/- The reference's Resolve. No conditions. -/
set_option linter.unusedSimpArgs false
set_option linter.unusedVariables false
namespace Go.Proofs.YtjdhgaflenhljaaDoor
open Go Go.Proofs Go.Abs

def polZ : Pol := ⟨[], [], [], [], .mk 0 0 0 [] [], 0⟩
def resolveF (p : Pol) : Pol × Int := if errF p = 0 then (resP p, 0) else (polZ, errF p)
def encRe (r : Pol × Int) : AV := .tuple [encPol r.1, .int .i64 r.2]
theorem resRs_app (o : List Tx) : ∀ (i : Int) (a b : List Rl), resRs o i (a ++ b) = resRs o i a ++ resRs o (i + a.length) b
  | i, [], b => by simp [resRs]
  | i, x :: a, b => by rw [List.cons_append, resRs, resRs, resRs_app o (i + 1) a b, List.cons_append, List.length_cons]; congr 3; omega
theorem resRs_len (o : List Tx) : ∀ (i : Int) (a : List Rl), (resRs o i a).length = a.length
  | _, [] => rfl
  | i, x :: a => by rw [resRs, List.length_cons, List.length_cons, resRs_len]
theorem large_size {x : Ex} (h : largeF x = false) : sizeX x ≤ 256 := by simp [largeF] at h; omega
theorem sized_facts {p : Pol} (h : sizedF p = true) : (p.offices.length ≤ 32 ∧ p.kinds.length ≤ 16 ∧ p.rules.length ≤ 16) ∧ (∀ r ∈ p.rules, largeF r.x = false) ∧ largeF p.change = false := by
  simp only [sizedF, exprs, Bool.and_eq_true, decide_eq_true_eq, List.all_append, List.all_map, List.all_cons, List.all_nil, Bool.and_true, Bool.not_eq_true'] at h
  refine ⟨h.1, fun r hr => ?_, h.2.2⟩
  have := List.all_eq_true.1 h.2.1 r hr
  simpa using this
def rpK (h : AH) (p : Pol) (rs : List Rl) (own : Abs.Own) : AH := h ++ [.row [.str ⟨⟨p.name⟩⟩, .sl (encT p.kinds) .free, .sl (encT p.offices) .free, .sl (p.rules.map encRl) .free, .int .i64 p.change.k, .int .i64 p.change.n, .int .i64 p.change.no, .str ⟨⟨p.change.name⟩⟩, .sl (p.change.l.map encX) .free, .int .i64 p.mode] 43, .row [.str ⟨#[]⟩, .sl [] .full, .sl [] .full, .sl [] .full, .int .i64 0, .int .i64 0, .int .i64 0, .str ⟨#[]⟩, .sl [] .full, .int .i64 0] 43, .row [.str ⟨⟨p.name⟩⟩, .sl (encT p.kinds) .free, .sl (encT p.offices) .free, .sl (rs.map encRl) own, .int .i64 p.change.k, .int .i64 p.change.n, .int .i64 p.change.no, .str ⟨⟨p.change.name⟩⟩, .sl (p.change.l.map encX) .free, .int .i64 p.mode] 43]
end Go.Proofs.YtjdhgaflenhljaaDoor

/- The reference's SameTexts, SameExpr, Same, Check. No conditions. -/
set_option linter.unusedSimpArgs false
set_option linter.unusedVariables false
namespace Go.Proofs.YtjdhgaflenhljaaDoor
open Go Go.Proofs Go.Abs

theorem resX_k (o : List Tx) (x : Ex) : (resX o x).k = x.k := by cases x; rw [resX]; rfl
theorem resX_n (o : List Tx) (x : Ex) : (resX o x).n = x.n := by cases x; rw [resX]; rfl
theorem resX_no (o : List Tx) (x : Ex) : (resX o x).no = wantF o x := by cases x; rw [resX]; rfl
theorem resX_name (o : List Tx) (x : Ex) : (resX o x).name = x.name := by cases x; rw [resX]; rfl
theorem resX_l (o : List Tx) (x : Ex) : (resX o x).l = x.l.map (resX o) := by cases x; rw [resX_mk]; rfl
theorem resdRs_app (o : List Tx) : ∀ (i : Int) (a b : List Rl), resdRs o i (a ++ b) = (resdRs o i a && resdRs o (i + a.length) b)
  | i, [], b => by simp [resdRs]
  | i, x :: a, b => by
    rw [List.cons_append, resdRs, resdRs, resdRs_app o (i + 1) a b, List.length_cons]
    have : i + 1 + (a.length : Int) = i + ((a.length + 1 : Nat) : Int) := by omega
    rw [this]; simp only [Bool.and_assoc]
end Go.Proofs.YtjdhgaflenhljaaDoor
