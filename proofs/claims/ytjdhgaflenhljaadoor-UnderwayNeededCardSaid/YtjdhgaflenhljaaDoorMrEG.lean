/- Texts joined: PerA. No conditions. -/
import Derived.Test.YtjdhgaflenhljaaDoorMrEA
/- Permits, plain: holders, people, what fulfils an expression; what a checked policy is. No conditions. -/
set_option linter.unusedSimpArgs false
set_option linter.unusedVariables false
namespace Go.Proofs.YtjdhgaflenhljaaDoor
open Go Go.Proofs Go.Abs

def rowH (hs : List (List Hd)) (no : Int) : List Hd := hs.getD no.toNat []
def hasP (who : List Int) (n : Int) : Bool := decide (n ∈ who)
def anyH (who : List Int) (l : List Hd) : Bool := l.any fun x => hasP who x.person
def sumH (who : List Int) : List Hd → Int
  | [] => 0
  | x :: r => (if hasP who x.person then x.weight else 0) + sumH who r
def cntT : List Bool → Int
  | [] => 0
  | b :: r => (if b then 1 else 0) + cntT r
mutual
def fulF (v : Int) (hs : List (List Hd)) (who : List Int) : Ex → Bool
  | .mk k n no _ l =>
    if k = 1 then anyH who (rowH hs no)
    else if k = 2 then decide (n ≤ sumH who (rowH hs no))
    else if k = 3 then decide (n ≤ cntT (fulFs v hs who l))
    else (fulFs v hs who l).getD (if v ≤ n then 0 else 1) false
def fulFs (v : Int) (hs : List (List Hd)) (who : List Int) : List Ex → List Bool
  | [] => []
  | x :: r => fulF v hs who x :: fulFs v hs who r
end
theorem fulFs_map (v : Int) (hs : List (List Hd)) (who : List Int) (l : List Ex) : fulFs v hs who l = l.map (fulF v hs who) := by
  induction l with
  | nil => rfl
  | cons x r ih => rw [fulFs, ih, List.map_cons]
theorem fulF_eq (v : Int) (hs : List (List Hd)) (who : List Int) (x : Ex) : fulF v hs who x =
    if x.k = 1 then anyH who (rowH hs x.no)
    else if x.k = 2 then decide (x.n ≤ sumH who (rowH hs x.no))
    else if x.k = 3 then decide (x.n ≤ cntT (x.l.map (fulF v hs who)))
    else (x.l.map (fulF v hs who)).getD (if v ≤ x.n then 0 else 1) false := by
  cases x with
  | mk k n no s l => rw [fulF, fulFs_map]; rfl
theorem sumH_app (who : List Int) (a b : List Hd) : sumH who (a ++ b) = sumH who a + sumH who b := by
  induction a with
  | nil => simp [sumH]
  | cons x r ih => simp only [List.cons_append, sumH, ih]; omega
theorem cntT_app (a b : List Bool) : cntT (a ++ b) = cntT a + cntT b := by
  induction a with
  | nil => simp [cntT]
  | cons x r ih => simp only [List.cons_append, cntT, ih]; omega
theorem cntT_bd (a : List Bool) : 0 ≤ cntT a ∧ cntT a ≤ a.length := by
  induction a with
  | nil => simp [cntT]
  | cons x r ih => rw [cntT, List.length_cons]; split <;> omega
/-- People in order, above a number. -/
def ordF : Int → List Int → Bool
  | _, [] => true
  | lo, n :: r => decide (lo < n ∧ n < 64) && ordF n r
def peopleF (l : List Int) : Bool := ordF (-1) l
def lineF (l : List Hd) : Bool := l.all (fun x => decide (1 ≤ x.weight ∧ x.weight ≤ 64)) && peopleF (l.map Hd.person)
def holdersF (hs : List (List Hd)) (n : Int) : Bool := hs.all lineF && decide ((hs.length : Int) = n)
def permF (p : Pol) (kind value : Int) (hs : List (List Hd)) (who : List Int) : Bool × Int :=
  if checkF p ≠ 0 then (false, checkF p)
  else if kind < 0 ∨ (p.kinds.length : Int) ≤ kind ∨ value < 0 ∨ 1099511627776 < value then (false, 1)
  else if holdersF hs p.offices.length = false then (false, 210)
  else if peopleF who = false then (false, 1)
  else (((p.rules[kind.toNat]?).map fun r => fulF value hs who r.x).getD false, 0)
def changeF (p : Pol) (hs : List (List Hd)) (who : List Int) : Bool × Int :=
  if checkF p ≠ 0 then (false, checkF p)
  else if holdersF hs p.offices.length = false then (false, 210)
  else if peopleF who = false then (false, 1)
  else (fulF 0 hs who p.change, 0)

theorem ordF_app (lo : Int) (a : List Int) (n : Int) (r : List Int) (h : ordF lo a = true) : ordF lo (a ++ n :: r) = (decide ((a.getLast?.getD lo) < n ∧ n < 64) && ordF n r) := by
  induction a generalizing lo with
  | nil => rfl
  | cons x t ih =>
    rw [ordF, Bool.and_eq_true] at h
    rw [List.cons_append, ordF, h.1, Bool.true_and, ih x h.2]
    cases t with
    | nil => rfl
    | cons y u => simp [List.getLast?_cons_cons, List.getLast?_cons]
theorem ordF_lt {lo : Int} {a : List Int} (h : ordF lo a = true) : ∀ n ∈ a, lo < n ∧ n < 64 := by
  induction a generalizing lo with
  | nil => simp
  | cons x t ih =>
    rw [ordF, Bool.and_eq_true, decide_eq_true_eq] at h
    intro n hn
    rcases List.mem_cons.1 hn with rfl | hn
    · exact h.1
    · have := ih h.2 n hn; omega
theorem ordF_pw {lo : Int} {a : List Int} (h : ordF lo a = true) : a.Pairwise (· < ·) := by
  induction a generalizing lo with
  | nil => exact .nil
  | cons x t ih =>
    rw [ordF, Bool.and_eq_true, decide_eq_true_eq] at h
    exact .cons (fun n hn => (ordF_lt h.2 n hn).1) (ih h.2)
theorem ordF_of {lo : Int} {a : List Int} (h1 : a.Pairwise (· < ·)) (h2 : ∀ n ∈ a, lo < n ∧ n < 64) : ordF lo a = true := by
  induction a generalizing lo with
  | nil => rfl
  | cons x t ih =>
    rw [List.pairwise_cons] at h1
    rw [ordF, Bool.and_eq_true, decide_eq_true_eq]
    exact ⟨h2 x (by simp), ih h1.2 fun n hn => ⟨h1.1 n hn, (h2 n (by simp [hn])).2⟩⟩
theorem peopleF_iff (a : List Int) : peopleF a = true ↔ a.Pairwise (· < ·) ∧ ∀ n ∈ a, 0 ≤ n ∧ n < 64 :=
  ⟨fun h => ⟨ordF_pw h, fun n hn => by have := ordF_lt h n hn; omega⟩, fun h => ordF_of h.1 fun n hn => by have := h.2 n hn; omega⟩
theorem pw_len {lo : Int} {a : List Int} (h : ordF lo a = true) (hlo : -1 ≤ lo) (h64 : lo < 64) : lo + a.length < 64 := by
  induction a generalizing lo with
  | nil => simpa using h64
  | cons x t ih =>
    rw [ordF, Bool.and_eq_true, decide_eq_true_eq] at h
    have := ih h.2 (by omega) h.1.2
    rw [List.length_cons]; omega
theorem people_len {a : List Int} (h : peopleF a = true) : a.length ≤ 64 := by have := pw_len h (by omega) (by omega); omega

/-! ### A right expression -/
def okF (o : List Tx) (u : Bool) (x : Ex) : Bool := formU u x && (namedF o x && (x.no == wantF o x))
def okX (o : List Tx) (u : Bool) (x : Ex) : Bool := allX (okF o u) x
theorem okX_eq (o : List Tx) (u : Bool) (x : Ex) : okX o u x = (allX (formU u) x && (allX (namedF o) x && resdF o x)) := by
  rw [okX, resdF, ← allX_and, ← allX_and]; rfl
theorem allX_top {f : Ex → Bool} {x : Ex} (h : allX f x = true) : f x = true := by
  cases x; rw [allX, Bool.and_eq_true] at h; exact h.1
theorem allX_sub {f : Ex → Bool} {x y : Ex} (h : allX f x = true) (hy : y ∈ x.l) : allX f y = true := by
  cases x; rw [allX, Bool.and_eq_true, allXs_all, List.all_eq_true] at h; exact h.2 y hy
theorem okX_top {o : List Tx} {u : Bool} {x : Ex} (h : okX o u x = true) : okF o u x = true := allX_top h
theorem okX_sub {o : List Tx} {u : Bool} {x y : Ex} (h : okX o u x = true) (hy : y ∈ x.l) : okX o u y = true := allX_sub h hy
theorem okF_named {o : List Tx} {u : Bool} {x : Ex} (h : okF o u x = true) (hk : x.k = 1 ∨ x.k = 2) : 0 ≤ x.no ∧ x.no < o.length := by
  rw [okF, Bool.and_eq_true, Bool.and_eq_true] at h
  have hn : isNmd x = true := by rw [isNmd]; rcases hk with h | h <;> simp [h]
  have h1 := h.2.1
  have h2 := beq_iff_eq.1 h.2.2
  rw [namedF, hn] at h1
  rw [wantF, if_pos hn] at h2
  have h3 : 0 ≤ idxT o x.name := by simpa using h1
  have := idx_bd o x.name
  omega
theorem okF_kind {o : List Tx} {u : Bool} {x : Ex} (h : okF o u x = true) : 1 ≤ x.k ∧ x.k ≤ 4 := by
  rw [okF, Bool.and_eq_true, formU, Bool.and_eq_true] at h
  have h1 := h.1.1
  rw [formF] at h1
  refine ⟨?_, ?_⟩ <;> (by_cases a1 : x.k = 1 <;> by_cases a2 : x.k = 2 <;> by_cases a3 : x.k = 3 <;> by_cases a4 : x.k = 4 <;> simp_all <;> omega)
theorem okF_form {o : List Tx} {u : Bool} {x : Ex} (h : okF o u x = true) : formF x = true := by
  rw [okF, Bool.and_eq_true, formU, Bool.and_eq_true] at h; exact h.1.1
theorem okF_upto {o : List Tx} {u : Bool} {x : Ex} (h : okF o u x = true) (hk : x.k = 4) : x.l.length = 2 ∧ 0 ≤ x.n ∧ x.n ≤ 1099511627776 := by
  have := okF_form h
  rw [formF, if_neg (by omega), if_neg (by omega), if_neg (by omega), if_pos hk, decide_eq_true_eq] at this
  omega
theorem okF_of {o : List Tx} {u : Bool} {x : Ex} (h : okF o u x = true) (hk : x.k = 3) : 1 ≤ x.l.length ∧ x.l.length ≤ 16 ∧ 1 ≤ x.n ∧ x.n ≤ x.l.length := by
  have := okF_form h
  rw [formF, if_neg (by omega), if_neg (by omega), if_pos hk, decide_eq_true_eq] at this
  omega
theorem okF_weight {o : List Tx} {u : Bool} {x : Ex} (h : okF o u x = true) (hk : x.k = 2) : 1 ≤ x.n ∧ x.n ≤ 4096 ∧ x.l.length = 0 := by
  have := okF_form h
  rw [formF, if_neg (by omega), if_pos hk, decide_eq_true_eq] at this
  omega
theorem okF_some {o : List Tx} {u : Bool} {x : Ex} (h : okF o u x = true) (hk : x.k = 1) : x.n = 0 ∧ x.l.length = 0 := by
  have := okF_form h
  rw [formF, if_pos hk, decide_eq_true_eq] at this
  omega
def okRl (o : List Tx) (i : Int) (r : Rl) : Bool := r.kno == i && (okX o true r.x && !largeF r.x)
theorem check_ok {p : Pol} (h : checkF p = 0) : sizedF p = true ∧ namesF p = true ∧ formedF p = true ∧ resdRs p.offices 0 p.rules = true ∧ resdF p.offices p.change = true := by
  have he : errF p = 0 := by
    by_cases he : errF p = 0
    · exact he
    · rw [checkF, if_neg he] at h; exact absurd h he
  rw [checkF, if_pos he] at h
  have h4 : (resdRs p.offices 0 p.rules && resdF p.offices p.change) = true := by
    cases hb : (resdRs p.offices 0 p.rules && resdF p.offices p.change)
    · rw [hb] at h; simp at h
    · rfl
  rw [Bool.and_eq_true] at h4
  rw [errF] at he
  refine ⟨?_, ?_, ?_, h4⟩
  · cases hb : sizedF p
    · rw [hb] at he; simp at he
    · rfl
  · cases hb : namesF p
    · rw [hb] at he
      exfalso; revert he
      cases sizedF p <;> simp
    · rfl
  · cases hb : formedF p
    · rw [hb] at he
      exfalso; revert he
      cases sizedF p <;> cases namesF p <;> simp
    · rfl
theorem ok_check {p : Pol} (h : sizedF p = true ∧ namesF p = true ∧ formedF p = true ∧ resdRs p.offices 0 p.rules = true ∧ resdF p.offices p.change = true) : checkF p = 0 := by
  obtain ⟨h1, h2, h3, h4, h5⟩ := h
  have he : errF p = 0 := by simp [errF, h1, h2, h3]
  rw [checkF, if_pos he, h4, h5]; rfl
theorem resdRs_all {o : List Tx} {l : List Rl} {i : Int} (h : resdRs o i l = true) : ∀ r ∈ l, resdF o r.x = true := by
  induction l generalizing i with
  | nil => simp
  | cons x t ih =>
    rw [resdRs, Bool.and_eq_true, Bool.and_eq_true] at h
    intro r hr
    rcases List.mem_cons.1 hr with rfl | hr
    · exact h.1.2
    · exact ih h.2 r hr
theorem check_rule {p : Pol} (h : checkF p = 0) {r : Rl} (hr : r ∈ p.rules) : okX p.offices true r.x = true ∧ largeF r.x = false := by
  obtain ⟨h1, h2, h3, h4, h5⟩ := check_ok h
  have hx : r.x ∈ exprs p := List.mem_append_left _ (List.mem_map.2 ⟨r, hr, rfl⟩)
  rw [sizedF, Bool.and_eq_true, List.all_eq_true] at h1
  rw [namesF, Bool.and_eq_true, List.all_eq_true] at h2
  rw [formedF, Bool.and_eq_true, Bool.and_eq_true, List.all_eq_true] at h3
  refine ⟨?_, by simpa using h1.2 _ hx⟩
  rw [okX_eq, h3.1.2 r hr, h2.2 _ hx, resdRs_all h4 r hr]; rfl
theorem check_change {p : Pol} (h : checkF p = 0) : okX p.offices false p.change = true ∧ largeF p.change = false := by
  obtain ⟨h1, h2, h3, h4, h5⟩ := check_ok h
  have hx : p.change ∈ exprs p := List.mem_append_right _ (by simp)
  rw [sizedF, Bool.and_eq_true, List.all_eq_true] at h1
  rw [namesF, Bool.and_eq_true, List.all_eq_true] at h2
  rw [formedF, Bool.and_eq_true] at h3
  refine ⟨?_, by simpa using h1.2 _ hx⟩
  rw [okX_eq, h3.2, h2.2 _ hx, h5]; rfl
theorem check_lens {p : Pol} (h : checkF p = 0) : p.rules.length = p.kinds.length ∧ p.offices.length ≤ 32 ∧ p.kinds.length ≤ 16 ∧ 0 < p.kinds.length ∧ 1 ≤ p.mode ∧ p.mode ≤ 4 := by
  obtain ⟨h1, h2, h3, h4, h5⟩ := check_ok h
  rw [sizedF, Bool.and_eq_true, decide_eq_true_eq] at h1
  rw [formedF, Bool.and_eq_true, Bool.and_eq_true, Bool.and_eq_true, decide_eq_true_eq] at h3
  omega
end Go.Proofs.YtjdhgaflenhljaaDoor
