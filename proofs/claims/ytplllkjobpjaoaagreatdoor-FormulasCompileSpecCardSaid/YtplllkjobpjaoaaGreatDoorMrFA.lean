/- Texts joined: FrGate, FrRefA, FrFormA, FrFormB. No conditions. -/
import Derived.Test.YtplllkjobpjaoaaGreatDoorMrF
import Derived.Test.YtplllkjobpjaoaaGreatDoorMrG
/- Gates as trees; what the reference says of them. No conditions. -/
set_option linter.unusedSimpArgs false
set_option linter.unusedVariables false
namespace Go.Proofs.YtplllkjobpjaoaaGreatDoor.Fr
open Go Go.Proofs Go.Abs

inductive Gt where
  | mk (p n : Int) (l : List Gt)

def Gt.p : Gt → Int | .mk p _ _ => p
def Gt.n : Gt → Int | .mk _ n _ => n
def Gt.l : Gt → List Gt | .mk _ _ l => l

mutual
def encG : Gt → AV
  | .mk p n l => .agg [.int .i64 p, .int .i64 n, .sl (encGs l) .free]
def encGs : List Gt → List AV
  | [] => []
  | x :: r => encG x :: encGs r
end
theorem encGs_map (l : List Gt) : encGs l = l.map encG := by
  induction l with
  | nil => rfl
  | cons x r ih => simp [encGs, ih]
theorem encG_mk (p n : Int) (l : List Gt) : encG (.mk p n l) = .agg [.int .i64 p, .int .i64 n, .sl (l.map encG) .free] := by simp [encG, encGs_map]
theorem encG_len (x : Gt) : (encG x).cells.length = 3 := by cases x; simp [encG, AV.cells]
theorem encG_take (x : Gt) : AV.agg (List.take 3 (encG x).cells) = encG x := by cases x; simp [encG, AV.cells]
theorem encG_good (x : Gt) : (encG x).good = true := by cases x; simp [encG, AV.good, AV.one]
theorem encG_splice (a b c : AV) (x : Gt) : splice [a, b, c] 0 (encG x).cells = (encG x).cells := by cases x; rfl
theorem encG_isAgg (x : Gt) : (encG x).isAgg = true := by cases x; rfl
attribute [go_sem] encG_isAgg encG_len encG_take encG_good encG_splice
theorem mem_sz {x : Gt} {p n : Int} {l : List Gt} (h : x ∈ l) {k : Nat} (hk : SizeOf.sizeOf (Gt.mk p n l) < k + 1) : SizeOf.sizeOf x < k := by
  have := List.sizeOf_lt_of_mem h
  simp only [Gt.mk.sizeOf_spec] at hk
  omega

/-- All numbers fit, all lists are no longer than lists may be. -/
inductive Sh : Gt → Prop
  | mk {p n : Int} {l : List Gt} (h1 : l.length ≤ 9223372036854775807) (h2 : ∀ x ∈ l, Sh x) (h3 : -9223372036854775808 ≤ p) (h4 : p ≤ 9223372036854775807) (h5 : -9223372036854775808 ≤ n) (h6 : n ≤ 9223372036854775807) : Sh (.mk p n l)
theorem Sh.len {p n : Int} {l : List Gt} (h : Sh (.mk p n l)) : l.length ≤ 9223372036854775807 := by cases h; assumption
theorem Sh.mem {p n : Int} {l : List Gt} (h : Sh (.mk p n l)) : ∀ x ∈ l, Sh x := by cases h; assumption
theorem len_mid {α : Type} {don r : List α} {x : α} {k : Nat} (h : (don ++ x :: r).length ≤ k) : don.length + 1 + r.length ≤ k := by simp at h; omega

mutual
def leaves : Gt → Int → Int
  | .mk _ _ l, lim => if l.isEmpty then 1 else leavesL l lim 0
def leavesL : List Gt → Int → Int → Int
  | [], _, n => n
  | x :: r, lim, n => if n ≤ lim then leavesL r lim (n + leaves x (lim - n)) else n
end

mutual
theorem leaves_bd : ∀ (g : Gt) (lim : Int), 0 ≤ lim → 1 ≤ leaves g lim ∧ leaves g lim ≤ lim + 1
  | .mk p n [], lim, h => by simp [leaves]; omega
  | .mk p n (x :: r), lim, h => by
    have h1 := leaves_bd x lim h
    have h2 := leavesL_bd r lim (leaves x lim) h (by omega) (by omega)
    simp only [leaves, leavesL, List.isEmpty_cons, Bool.false_eq_true, if_false, if_pos h, Int.sub_zero, Int.zero_add]
    omega
theorem leavesL_bd : ∀ (l : List Gt) (lim n : Int), 0 ≤ lim → 0 ≤ n → n ≤ lim + 1 → n ≤ leavesL l lim n ∧ leavesL l lim n ≤ lim + 1
  | [], lim, n, _, _, h => by simp [leavesL]; omega
  | x :: r, lim, n, h0, h1, h2 => by
    simp only [leavesL]
    split
    · rename_i hn
      have h3 := leaves_bd x (lim - n) (by omega)
      have h4 := leavesL_bd r lim (n + leaves x (lim - n)) h0 (by omega) (by omega)
      omega
    · omega
end

def deeperF : Nat → Gt → Bool
  | 0, _ => true
  | d + 1, g => g.l.any (deeperF d)

mutual
def rightF : Gt → Bool
  | .mk p n l => if 0 ≤ p then decide (p < 64) && decide (n = 0) && l.isEmpty else decide (p = -1) && decide (1 ≤ n) && decide (n ≤ 4096) && rightL l
def rightL : List Gt → Bool
  | [] => true
  | x :: r => rightF x && rightL r
end
theorem rightL_all (l : List Gt) : rightL l = l.all rightF := by
  induction l with
  | nil => rfl
  | cons x r ih => simp [rightL, ih]

def checkF (g : Gt) : Int := if deeperF 16 g || decide (leaves g 256 > 256) then 2 else if rightF g then 0 else 220
end Go.Proofs.YtplllkjobpjaoaaGreatDoor.Fr

/- The reference's functions on formulas: what they hand back. No conditions. -/
set_option linter.unusedSimpArgs false
set_option linter.unusedVariables false
namespace Go.Proofs.YtplllkjobpjaoaaGreatDoor.Fr
open Go Go.Proofs Go.Abs

set_option maxRecDepth 100000 in
theorem deeper_calls (Γ : Nat → Option (List AV)) : ∀ (d : Nat) (g : Gt) (h : AH), d ≤ 1000 → Sh g → ACalls Tryz.prog Γ 61 [encG g, .int .i64 d] h fun v h' => h' = h ∧ v = .bool (deeperF d g)
  | 0, .mk p n l, h, hd, hs => by
    refine ACalls.drop ?_
    refine acalls_code (rs := [.tmp 4]) Tryz.func61 rfl rfl rfl rfl Ty.mixed (by kernel_rfl) ?_
    simp only [encG_mk]
    simp (disch := omega) only [go_sem, seval]
    rfl
  | d + 1, .mk p n l, h, hd, hs => by
    refine ACalls.drop ?_
    refine acalls_code (rs := [.tmp 4]) Tryz.func61 rfl rfl rfl rfl Ty.mixed (by kernel_rfl) ?_
    simp only [encG_mk]
    simp (disch := omega) only [go_sem, seval]
    refine aIf.neg (by omega) ?_
    simp (disch := omega) only [go_sem, seval]
    have hl1 := hs.len
    have hl2 := hs.mem
    refine awp_loopL (β := Unit) l [5, 2, 1] (fun don _ => [(5, .int .i64 don.length), (2, AV.ptr (some (List.length h, 0))), (1, AV.int IntKind.i64 (d + 1 : Nat))])
      (fun _ => h ++ [AObj.row [AV.int IntKind.i64 p, AV.int IntKind.i64 n, AV.sl (l.map encG) Own.free] 34]) (fun _ rest _ => l.any (deeperF d) = rest.any (deeperF d)) () ?_ rfl rfl Ty.mixed (by kernel_rfl) ?_ ?_
    · simp (disch := omega) only [go_sem, seval]
    · rintro don x r _ rfl hs
      have hl3 := len_mid hl1
      simp (disch := omega) only [go_sem, seval, List.map_append, List.map_cons, List.length_append]
      refine aIf.pos (by omega) ?_
      simp (disch := omega) only [go_sem, seval]
      refine ACalls.det (deeper_calls Γ d x _ (by omega) (hl2 x (by simp))) ?_
      simp (disch := omega) only [go_sem, seval]
      refine aBr.intro (fun hb => ?_) (fun hb => ?_) <;> simp (disch := omega) only [go_sem, seval]
      · simp only [deeperF, Gt.l, hs, List.any_cons, hb, Bool.true_or]
      · refine roundL_next () (by rw [hs]; simp only [List.any_cons]; rw [hb]; rfl) ?_ (by simp)
        simp (disch := omega) only [go_sem, seval, List.length_append]
    · intro _ hs
      simp (disch := omega) only [go_sem, seval]
      refine AWP.keep [5] (aCode_ok Ty.mixed _ _ _ _ (by kernel_rfl) ?_)
      simp (disch := omega) only [go_sem, seval]
      simp [deeperF, Gt.l, hs]

set_option maxRecDepth 100000 in
theorem leaves_calls_k (Γ : Nat → Option (List AV)) : ∀ (k : Nat) (g : Gt) (lim : Int) (h : AH), SizeOf.sizeOf g < k → 0 ≤ lim → lim ≤ 1000000 → ACalls Tryz.prog Γ 62 [encG g, .int .i64 lim] h fun v h' => h' = h ∧ v = .int .i64 (leaves g lim)
  | 0, _, _, _, hk, _, _ => absurd hk (Nat.not_lt_zero _)
  | k + 1, .mk p n l, lim, h, hsz, h1, h2 => by
    refine ACalls.drop ?_
    refine acalls_code (rs := [.tmp 4]) Tryz.func62 rfl rfl rfl rfl Ty.mixed (by kernel_rfl) ?_
    simp only [encG]
    simp (disch := omega) only [go_sem, seval]
    refine aIf.intro (fun hc => ?_) (fun hc => ?_) <;> simp (disch := omega) only [go_sem, seval]
    · have : l = [] := by simpa [encGs_map] using hc
      subst this
      simp [leaves]
    refine awp_loopS (α := List Gt × List Gt × Int) [6, 5, 2, 1] (fun x => [(6, .int .i64 x.1.length), (5, .int .i64 x.2.2), (2, AV.ptr (some (List.length h, 0))), (1, AV.int IntKind.i64 lim)])
      (fun _ => h ++ [AObj.row [AV.int IntKind.i64 p, AV.int IntKind.i64 n, AV.sl (encGs l) Own.free] 34]) (fun x => l = x.1 ++ x.2.1 ∧ (x.1.length : Int) ≤ x.2.2 ∧ x.2.2 ≤ lim + 1 ∧ leavesL l lim 0 = leavesL x.2.1 lim x.2.2)
      (fun x => x.2.1.length) ([], l, 0) ?_ rfl ⟨rfl, by simp, by simp only; omega, rfl⟩ Ty.mixed (by kernel_rfl) ?_
    · simp (disch := omega) only [go_sem, seval]
    rintro ⟨don, rest, m⟩ ⟨hl, hk, hm, hs⟩
    simp only at hk hm hs hl ⊢
    simp (disch := omega) only [go_sem, seval]
    refine aIf.intro (fun hc1 => ?_) (fun hc1 => ?_) <;> simp (disch := omega) only [go_sem, seval]
    · refine aIf.intro (fun hc2 => ?_) (fun hc2 => ?_) <;> simp (disch := omega) only [go_sem, seval]
      · cases rest with
        | nil => simp [hl, encGs_map] at hc1
        | cons x r =>
          simp only [hl, encGs_map, List.map_append, List.map_cons]
          simp (disch := omega) only [go_sem, seval]
          refine ACalls.det (leaves_calls_k Γ k x (lim - m) _ (by have := List.sizeOf_lt_of_mem (show x ∈ l by rw [hl]; simp); simp only [Gt.mk.sizeOf_spec] at hsz; omega) (by omega) (by omega)) ?_
          have hb := leaves_bd x (lim - m) (by omega)
          simp (disch := omega) only [go_sem, seval]
          refine roundS_next (don ++ [x], r, m + leaves x (lim - m)) (by simp) ⟨by simp [hl], by simp; omega, by simp only; omega, ?_⟩ ?_ ?_
          · rw [← hl, hs]; simp only [leavesL, if_pos hc2]
          · simp (disch := omega) only [go_sem, seval, List.length_append]
          · simp [hl, encGs_map]
      · refine AWP.keep [5] (aCode_ok Ty.mixed _ _ _ _ (by kernel_rfl) ?_)
        simp (disch := omega) only [go_sem, seval]
        have : l.isEmpty = false := by cases l with
          | nil => simp [encGs] at hc
          | cons _ _ => rfl
        simp only [leaves, this, Bool.false_eq_true, if_false, hs]
        cases rest <;> simp [leavesL, hc2]
    · refine AWP.keep [5] (aCode_ok Ty.mixed _ _ _ _ (by kernel_rfl) ?_)
      simp (disch := omega) only [go_sem, seval]
      have hr : rest = [] := by
        have h3 := congrArg List.length hl
        simp [encGs_map] at hc1 h3
        exact List.length_eq_zero_iff.1 (by omega)
      have : l.isEmpty = false := by cases l with
          | nil => simp [encGs] at hc
          | cons _ _ => rfl
      simp only [leaves, this, Bool.false_eq_true, if_false, hs, hr, leavesL]
set_option maxRecDepth 100000 in
theorem leaves_calls (Γ : Nat → Option (List AV)) (g : Gt) (lim : Int) (h : AH) (h1 : 0 ≤ lim) (h2 : lim ≤ 1000000) : ACalls Tryz.prog Γ 62 [encG g, .int .i64 lim] h fun v h' => h' = h ∧ v = .int .i64 (leaves g lim) :=
  leaves_calls_k Γ _ g lim h (Nat.lt_succ_self _) h1 h2

set_option maxRecDepth 100000 in
theorem refright_calls_k (Γ : Nat → Option (List AV)) : ∀ (k : Nat) (g : Gt) (h : AH), SizeOf.sizeOf g < k → Sh g → ACalls Tryz.prog Γ 63 [encG g] h fun v h' => h' = h ∧ v = .bool (rightF g)
  | 0, _, _, hk, _ => absurd hk (Nat.not_lt_zero _)
  | k + 1, .mk p n l, h, hsz, hs => by
    refine ACalls.drop ?_
    refine acalls_code (rs := [.tmp 2]) Tryz.func63 rfl rfl rfl rfl Ty.mixed (by kernel_rfl) ?_
    simp only [encG_mk]
    simp (disch := omega) only [go_sem, seval]
    have hl1 := hs.len
    have hl2 := hs.mem
    refine aIf.intro (fun hp => ?_) (fun hp => ?_) <;> simp (disch := omega) only [go_sem, seval]
    · refine aIf.intro (fun h1 => ?_) (fun h1 => ?_) <;> simp (disch := omega) only [go_sem, seval]
      · refine aIf.intro (fun h2 => ?_) (fun h2 => ?_) <;> simp (disch := omega) only [go_sem, seval]
        · cases l <;> simp [rightF, hp, h1, h2] <;> omega
        · simp [rightF, hp, h2]
      · simp [rightF, hp, h1]
    refine aIf.intro (fun h1 => ?_) (fun h1 => ?_)
    rotate_left
    · simp (disch := omega) only [go_sem, seval]
      simp [rightF, hp, h1]
    simp (disch := omega) only [go_sem, seval]
    refine aIf.intro (fun h2 => ?_) (fun h2 => ?_) <;> simp (disch := omega) only [go_sem, seval]
    · subst h1; simp [rightF]; intros; omega
    refine aIf.intro (fun h3 => ?_) (fun h3 => ?_) <;> simp (disch := omega) only [go_sem, seval]
    · subst h1; simp [rightF]; intros; omega
    have hb : rightF (.mk p n l) = l.all rightF := by simp [rightF, rightL_all, hp, show p = -1 by omega, show (1 : Int) ≤ n by omega, show n ≤ (4096 : Int) by omega]
    rw [hb]
    refine awp_loopL (β := Unit) l [3, 1] (fun don _ => [(3, .int .i64 don.length), (1, AV.ptr (some (List.length h, 0)))])
      (fun _ => h ++ [AObj.row [AV.int IntKind.i64 p, AV.int IntKind.i64 n, AV.sl (l.map encG) Own.free] 34]) (fun _ rest _ => l.all rightF = rest.all rightF) () ?_ rfl rfl Ty.mixed (by kernel_rfl) ?_ ?_
    · simp (disch := omega) only [go_sem, seval]
    · rintro don x r _ rfl hs
      have hl3 := len_mid hl1
      simp (disch := omega) only [go_sem, seval, List.map_append, List.map_cons, List.length_append]
      refine aIf.pos (by omega) ?_
      simp (disch := omega) only [go_sem, seval]
      refine ACalls.det (refright_calls_k Γ k x _ (mem_sz (by simp) hsz) (hl2 x (by simp))) ?_
      simp (disch := omega) only [go_sem, seval]
      refine aBr.intro (fun hb => ?_) (fun hb => ?_) <;> simp (disch := omega) only [go_sem, seval]
      · refine roundL_next () (by rw [hs]; simp only [List.all_cons, hb]; simp) ?_ (by simp)
        simp (disch := omega) only [go_sem, seval, List.length_append]
      · simp only [hs, List.all_cons, hb]; simp
    · intro _ hs
      simp (disch := omega) only [go_sem, seval]
      refine AWP.keep [1] (aCode_ok Ty.mixed _ _ _ _ (by kernel_rfl) ?_)
      simp (disch := omega) only [go_sem, seval]
      simp [hs]
set_option maxRecDepth 100000 in
theorem refright_calls (Γ : Nat → Option (List AV)) (g : Gt) (h : AH) (hs : Sh g) : ACalls Tryz.prog Γ 63 [encG g] h fun v h' => h' = h ∧ v = .bool (rightF g) :=
  refright_calls_k Γ _ g h (Nat.lt_succ_self _) hs

set_option maxRecDepth 100000 in
theorem refcheck_calls (Γ : Nat → Option (List AV)) (g : Gt) (h : AH) (hs : Sh g) : ACalls Tryz.prog Γ 39 [encG g] h fun v h' => h' = h ∧ v = .int .i64 (checkF g) := by
  refine ACalls.drop ?_
  refine acalls_code (rs := [.tmp 2]) Tryz.func39 rfl rfl rfl rfl Ty.mixed (by kernel_rfl) ?_
  simp (disch := omega) only [go_sem, seval]
  refine ACalls.det (deeper_calls Γ 16 g _ (by omega) hs) ?_
  simp (disch := omega) only [go_sem, seval]
  refine aBr.intro (fun h1 => ?_) (fun h1 => ?_) <;> simp (disch := omega) only [go_sem, seval]
  rotate_left
  · simp [checkF, h1]
  refine ACalls.det (leaves_calls Γ g 256 _ (by omega) (by omega)) ?_
  simp (disch := omega) only [go_sem, seval]
  refine aIf.intro (fun h2 => ?_) (fun h2 => ?_) <;> simp (disch := omega) only [go_sem, seval]
  · simp [checkF, h2]
  refine ACalls.det (refright_calls Γ g _ hs) ?_
  simp (disch := omega) only [go_sem, seval]
  refine aBr.intro (fun h3 => ?_) (fun h3 => ?_) <;> simp (disch := omega) only [go_sem, seval]
  · simp [checkF, h1, h3]; omega
  · simp [checkF, h1, h3]; omega
end Go.Proofs.YtplllkjobpjaoaaGreatDoor.Fr

/- The program's functions on formulas: what they hand back. No conditions. -/
set_option linter.unusedSimpArgs false
set_option linter.unusedVariables false
namespace Go.Proofs.YtplllkjobpjaoaaGreatDoor.Fr
open Go Go.Proofs Go.Abs

/-- Is there one of which a predicate with a state holds? -/
def anyS {α β : Type} (p : α → β → Bool × β) : List α → β → Bool × β
  | [], b => (false, b)
  | x :: r, b => if (p x b).1 then (true, (p x b).2) else anyS p r (p x b).2
def idxS {α β : Type} (p : α → β → Bool × β) : List α → Nat → β → Int × β
  | [], _, b => (-1, b)
  | x :: r, i, b => if (p x b).1 then (i, (p x b).2) else idxS p r (i + 1) (p x b).2
theorem idxS_any {α β : Type} (p : α → β → Bool × β) (l : List α) (i : Nat) (b : β) : (idxS p l i b).2 = (anyS p l b).2 ∧ (0 ≤ (idxS p l i b).1 ↔ (anyS p l b).1 = true) := by
  induction l generalizing i b with
  | nil => simp [idxS, anyS]
  | cons x r ih =>
    simp only [idxS, anyS]
    split
    · exact ⟨rfl, by simp⟩
    · exact ih _ _

set_option maxRecDepth 100000 in
theorem index_calls (Γ : Nat → Option (List AV)) {β : Type} (xs : List Gt) (hx : xs.length ≤ 9223372036854775807) (fn : FuncId) (fs cs : List AV) (hp : β → AH) (p : Gt → β → Bool × β) (inv : β → Prop)
    (H : ∀ x ∈ xs, ∀ b, inv b → ((p x b).1 = false → inv (p x b).2) ∧ ACalls Tryz.prog Γ fn (fs ++ encG x :: cs) (hp b) fun v h' => h' = hp (p x b).2 ∧ v = .bool (p x b).1) (b : β) (hb : inv b) :
    ACalls Tryz.prog Γ 65 [.sl (xs.map encG) .free, .func fn fs cs] (hp b) fun v h' => h' = hp (idxS p xs 0 b).2 ∧ v = .int .i64 (idxS p xs 0 b).1 := by
  refine acalls_code (rs := [.tmp 4]) Tryz.func65 rfl rfl rfl rfl Ty.mixed (by kernel_rfl) ?_
  simp (disch := omega) only [go_sem, seval]
  refine awp_loopL (β := β) xs [8, 7, 1, 0] (fun don _ => [(8, .int .i64 don.length), (7, .int .i64 xs.length), (1, .func fn fs cs), (0, .sl (xs.map encG) .free)])
      (fun b => hp b) (fun don rest b' => inv b' ∧ idxS p xs 0 b = idxS p rest don.length b') b ?_ rfl ⟨hb, rfl⟩ Ty.mixed (by kernel_rfl) ?_ ?_
  · simp (disch := omega) only [go_sem, seval]
  · rintro don x r b' rfl ⟨hi, hs⟩
    have hl3 := len_mid hx
    simp (disch := omega) only [go_sem, seval, List.map_append, List.map_cons, List.length_append]
    refine aIf.pos (by omega) ?_
    simp (disch := omega) only [go_sem, seval]
    obtain ⟨h1, h2⟩ := H x (by simp) b' hi
    refine ACalls.detH (h2.args (by simp)) ?_
    simp (disch := omega) only [go_sem, seval]
    refine aBr.intro (fun hb => ?_) (fun hb => ?_) <;> simp (disch := omega) only [go_sem, seval]
    · rw [hs, idxS, if_pos hb]; exact ⟨rfl, rfl⟩
    · refine roundL_next (p x b').2 ⟨h1 (by simpa using hb), by rw [hs, idxS, if_neg (by simp at hb; simp [hb])]; simp⟩ ?_ rfl
      simp (disch := omega) only [go_sem, seval, List.length_append, List.map_append, List.map_cons]
  · rintro b' ⟨_, hs⟩
    simp (disch := omega) only [go_sem, seval]
    refine AWP.keep [0] (aCode_ok Ty.mixed _ _ _ _ (by kernel_rfl) ?_)
    simp (disch := omega) only [go_sem, seval]
    rw [hs]; exact ⟨rfl, rfl⟩

set_option maxRecDepth 100000 in
theorem contains_calls (Γ : Nat → Option (List AV)) {β : Type} (xs : List Gt) (hx : xs.length ≤ 9223372036854775807) (fn : FuncId) (fs cs : List AV) (hp : β → AH) (p : Gt → β → Bool × β) (inv : β → Prop)
    (H : ∀ x ∈ xs, ∀ b, inv b → ((p x b).1 = false → inv (p x b).2) ∧ ACalls Tryz.prog Γ fn (fs ++ encG x :: cs) (hp b) fun v h' => h' = hp (p x b).2 ∧ v = .bool (p x b).1) (b : β) (hb : inv b) :
    ACalls Tryz.prog Γ 42 [.sl (xs.map encG) .free, .func fn fs cs] (hp b) fun v h' => h' = hp (anyS p xs b).2 ∧ v = .bool (anyS p xs b).1 := by
  refine acalls_code (rs := [.tmp 4]) Tryz.func42 rfl rfl rfl rfl Ty.mixed (by kernel_rfl) ?_
  simp (disch := omega) only [go_sem, seval]
  refine ACalls.detH (index_calls Γ xs hx fn fs cs hp p inv H b hb) ?_
  simp (disch := omega) only [go_sem, seval]
  have := idxS_any p xs 0 b
  refine ⟨by rw [this.1], ?_⟩
  congr 1
  rw [Bool.eq_iff_iff, ← this.2]; simp

/-! ### right -/
theorem anyS_unit (q : Gt → Bool) (l : List Gt) : (anyS (fun x (_ : Unit) => (q x, ())) l ()).1 = l.any q := by
  induction l with
  | nil => rfl
  | cons x r ih =>
    simp only [anyS, List.any_cons]
    cases q x <;> simp [ih]

set_option maxRecDepth 100000 in
theorem right_calls_k (Γ : Nat → Option (List AV)) : ∀ (k : Nat) (g : Gt) (h : AH), SizeOf.sizeOf g < k → Sh g → ACalls Tryz.prog Γ 29 [encG g] h fun v h' => h' = h ∧ v = .bool (rightF g)
  | 0, _, _, hk, _ => absurd hk (Nat.not_lt_zero _)
  | k + 1, .mk p n l, h, hsz, hs => by
    refine ACalls.drop ?_
    refine acalls_code (rs := [.tmp 2]) Tryz.func29 rfl rfl rfl rfl Ty.mixed (by kernel_rfl) ?_
    simp only [encG_mk]
    simp (disch := omega) only [go_sem, seval]
    have hl1 := hs.len
    have hl2 := hs.mem
    refine aIf.intro (fun hp => ?_) (fun hp => ?_) <;> simp (disch := omega) only [go_sem, seval]
    · refine aIf.intro (fun h1 => ?_) (fun h1 => ?_) <;> simp (disch := omega) only [go_sem, seval]
      · refine aIf.intro (fun h2 => ?_) (fun h2 => ?_) <;> simp (disch := omega) only [go_sem, seval]
        · cases l <;> simp [rightF, hp, h1, h2] <;> omega
        · simp [rightF, hp, h2]
      · simp [rightF, hp, h1]
    refine aIf.intro (fun h1 => ?_) (fun h1 => ?_) <;> simp (disch := omega) only [go_sem, seval]
    rotate_left
    · simp [rightF, hp, h1]
    refine aIf.intro (fun h2 => ?_) (fun h2 => ?_) <;> simp (disch := omega) only [go_sem, seval]
    rotate_left
    · subst h1; simp [rightF]; intros; omega
    refine aIf.intro (fun h3 => ?_) (fun h3 => ?_) <;> simp (disch := omega) only [go_sem, seval]
    rotate_left
    · subst h1; simp [rightF]; intros; omega
    have hb : rightF (.mk p n l) = l.all rightF := by simp [rightF, rightL_all, hp, show p = -1 by omega, show (1 : Int) ≤ n by omega, show n ≤ (4096 : Int) by omega]
    rw [hb]
    refine ACalls.detH (contains_calls Γ l hl1 44 [] [] (fun _ => _) (fun x (_ : Unit) => (!rightF x, ())) (fun _ => True) (fun x hx b _ => ⟨fun _ => trivial, ?_⟩) () trivial) ?_
    · refine ACalls.drop ?_
      refine acalls_code (rs := [.tmp 2]) Tryz.func44 rfl rfl rfl rfl Ty.mixed (by kernel_rfl) ?_
      simp (disch := omega) only [go_sem, seval]
      refine ACalls.det (right_calls_k Γ k x _ (mem_sz hx hsz) (hl2 x hx)) ?_
      simp (disch := omega) only [go_sem, seval]
    simp (disch := omega) only [go_sem, seval]
    rw [anyS_unit, List.any_eq_not_all_not]
    simp
set_option maxRecDepth 100000 in
theorem right_calls (Γ : Nat → Option (List AV)) (g : Gt) (h : AH) (hs : Sh g) : ACalls Tryz.prog Γ 29 [encG g] h fun v h' => h' = h ∧ v = .bool (rightF g) :=
  right_calls_k Γ _ g h (Nat.lt_succ_self _) hs

/-! ### large -/
mutual
def walkF : Nat → Gt → Int → Bool × Int
  | d, .mk _ _ l, n => if 16 < d then (true, n) else if l.isEmpty then (decide (n - 1 < 0), n - 1) else walkL (d + 1) l n
def walkL : Nat → List Gt → Int → Bool × Int
  | _, [], n => (false, n)
  | d, x :: r, n => if (walkF d x n).1 then (true, (walkF d x n).2) else walkL d r (walkF d x n).2
end
theorem walkL_any (d : Nat) (l : List Gt) (n : Int) : anyS (fun x n => walkF d x n) l n = walkL d l n := by
  induction l generalizing n with
  | nil => rfl
  | cons x r ih => simp only [anyS, walkL, ih]

mutual
theorem walkF_bd : ∀ (d : Nat) (g : Gt) (n : Int), 0 ≤ n → (walkF d g n).2 ≤ n ∧ -1 ≤ (walkF d g n).2 ∧ ((walkF d g n).1 = false → 0 ≤ (walkF d g n).2)
  | d, .mk _ _ l, n, h => by
    rw [walkF]
    split
    · simp; omega
    · split
      · simp; omega
      · exact walkL_bd (d + 1) l n h
theorem walkL_bd : ∀ (d : Nat) (l : List Gt) (n : Int), 0 ≤ n → (walkL d l n).2 ≤ n ∧ -1 ≤ (walkL d l n).2 ∧ ((walkL d l n).1 = false → 0 ≤ (walkL d l n).2)
  | d, [], n, h => by simp [walkL]; omega
  | d, x :: r, n, h => by
    have h1 := walkF_bd d x n h
    rw [walkL]
    split
    · rename_i hc; simp only; exact ⟨h1.1, h1.2.1, fun h => by cases h⟩
    · rename_i hc
      have h2 := walkL_bd d r _ (h1.2.2 (by simpa using hc))
      exact ⟨by omega, h2.2⟩
end

theorem kept_int (h : AH) (i : Nat) (n : Int) : LoopKept h (h.set i (.row [.int .i64 n] 3)) := LoopKept.set (show RBs h.length [.int .i64 n] from RBs.cons (.int _ _) (RBs.nil _)) (by simp)

def walkV (i j : Nat) : AV := .func 41 [] [.ptr (some (i, 0)), .ptr (some (j, 0))]

set_option maxRecDepth 100000 in
theorem walk_calls_k (Γ : Nat → Option (List AV)) : ∀ (k : Nat) (g : Gt) (d : Nat) (n : Int) (h : AH) (i j : Nat), SizeOf.sizeOf g < k → Sh g → d ≤ 17 → 0 ≤ n → n ≤ 1000000 → h[i]? = some (.row [.int .i64 n] 3) → h[j]? = some (.row [walkV i j] 79) →
    ACalls Tryz.prog Γ 41 [encG g, .int .i64 d, .ptr (some (i, 0)), .ptr (some (j, 0))] h fun v h' => h' = h.set i (.row [.int .i64 (walkF d g n).2] 3) ∧ v = .bool (walkF d g n).1
  | 0, _, _, _, _, _, _, hk, _, _, _, _, _, _ => absurd hk (Nat.not_lt_zero _)
  | k + 1, .mk p q l, d, n, h, i, j, hsz, hs, hd, hn1, hn2, hi, hj => by
    have hi' := hget_of hi
    have hj' := hget_of hj
    refine ACalls.dropAs (kept_int _ _ _) ?_
    refine acalls_code (rs := [.tmp 6]) Tryz.func41 rfl rfl rfl rfl Ty.mixed (by kernel_rfl) ?_
    simp only [encG_mk]
    simp (disch := omega) only [go_sem, seval]
    refine aIf.intro (fun h1 => ?_) (fun h1 => ?_) <;> simp (disch := omega) only [go_sem, seval]
    · have : walkF d (.mk p q l) n = (true, n) := by rw [walkF, if_pos (by omega)]
      rw [this, hset_same hi]
      simp (disch := omega) only [go_sem, seval]
    refine aIf.intro (fun h2 => ?_) (fun h2 => ?_) <;> simp (disch := omega) only [go_sem, seval]
    · have hl : l = [] := by cases l with
        | nil => rfl
        | cons x r => simp at h2; omega
      subst hl
      simp (disch := omega) only [go_sem, seval, hget_in, hi, hset_left, hget_setl]
      have : walkF d (.mk p q []) n = (decide (n - 1 < 0), n - 1) := by rw [walkF, if_neg (by omega)]; rfl
      simp only [this]
      simp (disch := omega) only [go_sem, seval]
    · have hl : l.isEmpty = false := by cases l with
        | nil => simp at h2
        | cons x r => rfl
      have hw : walkF d (.mk p q l) n = walkL (d + 1) l n := by rw [walkF, if_neg (by omega), hl]; simp
      have hij : i ≠ j := fun e => by subst e; rw [hi] at hj; simp [walkV] at hj
      generalize hH : h ++ [AObj.row [AV.int IntKind.i64 p, AV.int IntKind.i64 q, AV.sl (l.map encG) Own.free] 34, AObj.row [AV.int IntKind.i64 ↑d] 3] = H
      have Hi : H[i]? = some (.row [.int .i64 n] 3) := by subst hH; rw [hget_in _ hi']; exact hi
      have Hj : H[j]? = some (.row [walkV i j] 79) := by subst hH; rw [hget_in _ hj']; exact hj
      have Hd : H[h.length + 1]? = some (.row [.int .i64 d] 3) := by subst hH; simp
      have Hl := hget_of Hd
      refine ACalls.detH ((contains_calls Γ l hs.len 43 [] [.ptr (some (j, 0)), .ptr (some (h.length + 1, 0))] (fun b => H.set i (.row [.int .i64 b] 3)) (fun x b => walkF (d + 1) x b) (fun b => 0 ≤ b ∧ b ≤ 1000000)
        (fun x hx b hb => ⟨fun hc => ?_, ?_⟩) n ⟨hn1, hn2⟩).heap (hset_same Hi)) ?_
      · have := walkF_bd (d + 1) x b hb.1
        exact ⟨this.2.2 hc, by omega⟩
      · have e1 : ∀ o, (H.set i (.row [.int .i64 b] 3)).set i o = H.set i o := fun o => by simp
        have k1 : (H.set i (.row [.int .i64 b] 3))[i]? = some (.row [.int .i64 b] 3) := by rw [List.getElem?_set_self (by omega)]
        have k2 : (H.set i (.row [.int .i64 b] 3))[j]? = some (.row [walkV i j] 79) := by rw [List.getElem?_set_ne hij]; exact Hj
        have k3 : (H.set i (.row [.int .i64 b] 3))[h.length + 1]? = some (.row [.int .i64 d] 3) := by rw [List.getElem?_set_ne (by omega)]; exact Hd
        rw [← e1 (.row [.int .i64 (walkF (d + 1) x b).2] 3)]
        generalize H.set i (.row [.int .i64 b] 3) = H1 at k1 k2 k3 ⊢
        have m1 := hget_of k1
        have m2 := hget_of k2
        have m3 := hget_of k3
        refine ACalls.dropAs (kept_int _ _ _) ?_
        refine acalls_code (rs := [.tmp 4]) Tryz.func43 rfl rfl rfl rfl Ty.mixed (by kernel_rfl) ?_
        simp (disch := omega) only [go_sem, seval, hget_in, k1, k2, k3, walkV]
        refine ACalls.detH (walk_calls_k Γ k x (d + 1) b _ i j (mem_sz hx hsz) (hs.mem x hx) (by omega) hb.1 hb.2 (by rw [hget_in _ m1]; exact k1) (by rw [hget_in _ m2]; exact k2)) ?_
        simp (disch := omega) only [go_sem, seval, hset_left]
      · have e1 : ∀ v, H.set i (.row [.int .i64 v] 3) = h.set i (.row [.int .i64 v] 3) ++ _ := fun v => by rw [← hH, hset_left _ _ hi']
        rw [walkL_any]
        simp (disch := omega) only [go_sem, seval]
        rw [e1, hw]
        simp (disch := omega) only [go_sem, seval]
set_option maxRecDepth 100000 in
theorem walk_calls (Γ : Nat → Option (List AV)) (g : Gt) (d : Nat) (n : Int) (h : AH) (i j : Nat) (hs : Sh g) (hd : d ≤ 17) (h0 : 0 ≤ n) (h1 : n ≤ 1000000) (hi : h[i]? = some (.row [.int .i64 n] 3)) (hj : h[j]? = some (.row [walkV i j] 79)) :
    ACalls Tryz.prog Γ 41 [encG g, .int .i64 d, .ptr (some (i, 0)), .ptr (some (j, 0))] h fun v h' => h' = h.set i (.row [.int .i64 (walkF d g n).2] 3) ∧ v = .bool (walkF d g n).1 :=
  walk_calls_k Γ _ g d n h i j (Nat.lt_succ_self _) hs hd h0 h1 hi hj

set_option maxRecDepth 100000 in
theorem large_calls (Γ : Nat → Option (List AV)) (g : Gt) (h : AH) (hs : Sh g) : ACalls Tryz.prog Γ 28 [encG g] h fun v h' => h' = h ∧ v = .bool (walkF 1 g 256).1 := by
  refine ACalls.drop ?_
  refine acalls_code (rs := [.tmp 2]) Tryz.func28 rfl rfl rfl rfl Ty.mixed (by kernel_rfl) ?_
  simp (disch := omega) only [go_sem, seval]
  refine ACalls.detH (walk_calls Γ g 1 256 _ _ _ hs (by omega) (by omega) (by omega) (by simp (disch := omega) only [go_sem, seval]) (by simp (disch := omega) only [go_sem, seval, walkV])) ?_
  simp (disch := omega) only [go_sem, seval]

/-! ### what it says -/
mutual
def allLeaves : Gt → Int
  | .mk _ _ l => if l.isEmpty then 1 else allLeavesL l
def allLeavesL : List Gt → Int
  | [] => 0
  | x :: r => allLeaves x + allLeavesL r
end
mutual
theorem allLeaves_pos : ∀ g : Gt, 1 ≤ allLeaves g
  | .mk _ _ [] => by simp [allLeaves]
  | .mk _ _ (x :: r) => by
    have h1 := allLeaves_pos x
    have h2 := allLeavesL_pos r
    simp [allLeaves, allLeavesL]; omega
theorem allLeavesL_pos : ∀ l : List Gt, 0 ≤ allLeavesL l
  | [] => by simp [allLeavesL]
  | x :: r => by
    have h1 := allLeaves_pos x
    have h2 := allLeavesL_pos r
    simp [allLeavesL]; omega
end
mutual
theorem leaves_all : ∀ (g : Gt) (lim : Int), 0 ≤ lim → (leaves g lim ≤ lim ∧ leaves g lim = allLeaves g) ∨ (lim < leaves g lim ∧ lim < allLeaves g)
  | .mk _ _ [], lim, h => by simp [leaves, allLeaves]; omega
  | .mk _ _ (x :: r), lim, h => by
    have := leavesL_all (x :: r) lim 0 h (by omega) (by omega)
    simpa [leaves, allLeaves] using this
theorem leavesL_all : ∀ (l : List Gt) (lim n : Int), 0 ≤ lim → 0 ≤ n → n ≤ lim + 1 → (leavesL l lim n ≤ lim ∧ leavesL l lim n = n + allLeavesL l) ∨ (lim < leavesL l lim n ∧ lim < n + allLeavesL l)
  | [], lim, n, h, h0, h1 => by simp [leavesL, allLeavesL]; omega
  | x :: r, lim, n, h, h0, h1 => by
    simp only [leavesL, allLeavesL]
    have p2 := allLeavesL_pos r
    have p1 := allLeaves_pos x
    split
    · have a1 := leaves_all x (lim - n) (by omega)
      have a3 := leaves_bd x (lim - n) (by omega)
      have a2 := leavesL_all r lim (n + leaves x (lim - n)) h (by omega) (by omega)
      omega
    · omega
end
mutual
theorem walkF_iff : ∀ (g : Gt) (k d : Nat) (n : Int), d + k = 17 → 0 ≤ n → ((walkF d g n).1 = (deeperF k g || decide (n < allLeaves g)) ∧ ((walkF d g n).1 = false → (walkF d g n).2 = n - allLeaves g))
  | .mk p q l, 0, d, n, hk, hn => by
    rw [walkF, if_pos (by omega)]
    simp [deeperF]
  | .mk p q [], k + 1, d, n, hk, hn => by
    rw [walkF, if_neg (by omega)]
    refine ⟨?_, fun _ => ?_⟩
    · simp only [deeperF, Gt.l, allLeaves, List.isEmpty_nil, if_true, List.any_nil, Bool.false_or, decide_eq_decide]; omega
    · simp [allLeaves]
  | .mk p q (x :: r), k + 1, d, n, hk, hn => by
    rw [walkF, if_neg (by omega)]
    have := walkL_iff (x :: r) k (d + 1) n (by omega) hn
    simpa [deeperF, Gt.l, allLeaves] using this
theorem walkL_iff : ∀ (l : List Gt) (k d : Nat) (n : Int), d + k = 17 → 0 ≤ n → ((walkL d l n).1 = (l.any (deeperF k) || decide (n < allLeavesL l)) ∧ ((walkL d l n).1 = false → (walkL d l n).2 = n - allLeavesL l))
  | [], k, d, n, hk, hn => by
    refine ⟨?_, fun _ => by simp [walkL, allLeavesL]⟩
    have hx : allLeavesL [] = 0 := by simp [allLeavesL]
    simp only [walkL, List.any_nil, Bool.false_or]
    rw [eq_comm, decide_eq_false_iff_not]; omega
  | x :: r, k, d, n, hk, hn => by
    have hx : allLeavesL (x :: r) = allLeaves x + allLeavesL r := by simp [allLeavesL]
    obtain ⟨h1, h2⟩ := walkF_iff x k d n hk hn
    have h0 := walkF_bd d x n hn
    have p2 := allLeavesL_pos r
    rw [walkL]
    split
    · rename_i hc
      refine ⟨?_, fun h => by cases h⟩
      simp only [List.any_cons, allLeavesL]
      rw [h1] at hc
      simp at hc
      rcases hc with hc | hc
      · simp [hc]
      · simp [show n < allLeaves x + allLeavesL r by omega]
    · rename_i hc
      have hc : (walkF d x n).1 = false := by simpa using hc
      have e := h2 hc
      obtain ⟨h3, h4⟩ := walkL_iff r k d _ hk (h0.2.2 hc)
      rw [h1] at hc
      simp at hc
      refine ⟨?_, fun h => ?_⟩
      · rw [h3, e]; simp only [List.any_cons, hc.1, Bool.false_or]
        rw [Bool.eq_iff_iff]
        simp only [Bool.or_eq_true, decide_eq_true_eq]
        exact or_congr Iff.rfl (by omega)
      · rw [h4 h, e]; simp only [allLeavesL]; omega
end
theorem large_says (g : Gt) : (walkF 1 g 256).1 = (deeperF 16 g || decide (leaves g 256 > 256)) := by
  rw [(walkF_iff g 16 1 256 rfl (by omega)).1]
  have := leaves_all g 256 (by omega)
  congr 1
  rw [decide_eq_decide]; omega

set_option maxRecDepth 100000 in
theorem check_calls (Γ : Nat → Option (List AV)) (g : Gt) (h : AH) (hs : Sh g) : ACalls Tryz.prog Γ 14 [encG g] h fun v h' => h' = h ∧ v = .int .i64 (checkF g) := by
  refine ACalls.drop ?_
  refine acalls_code (rs := [.tmp 2]) Tryz.func14 rfl rfl rfl rfl Ty.mixed (by kernel_rfl) ?_
  simp (disch := omega) only [go_sem, seval]
  refine ACalls.det (large_calls Γ g _ hs) ?_
  rw [large_says]
  simp (disch := omega) only [go_sem, seval]
  refine aBr.intro (fun h1 => ?_) (fun h1 => ?_) <;> simp (disch := omega) only [go_sem, seval]
  · simp [checkF, h1]
  refine ACalls.det (right_calls Γ g _ hs) ?_
  simp (disch := omega) only [go_sem, seval]
  refine aBr.intro (fun h3 => ?_) (fun h3 => ?_) <;> simp (disch := omega) only [go_sem, seval]
  all_goals simp only [checkF, h1, h3]; rfl
end Go.Proofs.YtplllkjobpjaoaaGreatDoor.Fr

/- The program's evaluation of formulas: what it hands back. No conditions. -/
set_option linter.unusedSimpArgs false
set_option linter.unusedVariables false
namespace Go.Proofs.YtplllkjobpjaoaaGreatDoor.Fr
open Go Go.Proofs Go.Abs

/-- A set of people as a map's entries. -/
def entsFrom : Nat → List Int → List (Nat × AV × AV)
  | _, [] => []
  | i, n :: r => (i, .int .i64 n, .int .i64 1) :: entsFrom (i + 1) r
theorem entsFrom_app (l r : List Int) (i : Nat) : entsFrom i (l ++ r) = entsFrom i l ++ entsFrom (i + l.length) r := by
  induction l generalizing i with
  | nil => simp [entsFrom]
  | cons a l ih => simp [entsFrom, ih, Nat.add_assoc, Nat.add_comm 1]
theorem find_ents (p : Int) (l : List Int) (i : Nat) : (p ∈ l ∧ ∃ j e, aFind (.int .i64 p) (entsFrom i l) = some (some j) ∧ (entsFrom i l)[j]? = some e ∧ e.2.2 = .int .i64 1) ∨ (p ∉ l ∧ aFind (.int .i64 p) (entsFrom i l) = some none) := by
  induction l generalizing i with
  | nil => exact .inr ⟨by simp, rfl⟩
  | cons a r ih =>
    by_cases ha : p = a
    · subst ha
      exact .inl ⟨by simp, 0, _, by simp [entsFrom, aFind], rfl, rfl⟩
    · rcases ih (i + 1) with ⟨h1, j, e, h2, h3, h4⟩ | ⟨h1, h2⟩
      · exact .inl ⟨by simp [h1], j + 1, e, by simp [entsFrom, aFind, ha, h2], by simpa [entsFrom] using h3, h4⟩
      · exact .inr ⟨by simp [ha, h1], by simp [entsFrom, aFind, ha, h2]⟩
theorem look_ents (p : Int) (l : List Int) (i c : Nat) (K : AV → Prop) : aLkO false (.int .i64 0) (.int .i64 p) (some (.map (entsFrom i l) c)) K = K (.int .i64 (if p ∈ l then 1 else 0)) := by
  unfold aLkO aLkF
  rcases find_ents p l i with ⟨h1, j, e, h2, h3, h4⟩ | ⟨h1, h2⟩
  · simp [h1, h2, h3, h4]
  · simp [h1, h2]

theorem app5 {α : Type} (h j : List α) (a b c d e f : α) : h ++ a :: b :: c :: d :: e :: f :: j = (h ++ [a, b, c, d, e]) ++ f :: j := by simp

mutual
def holdsF (W : Int → Bool) : Gt → Bool
  | .mk p n l => if 0 ≤ p then W p else cntF W l n
def cntF (W : Int → Bool) : List Gt → Int → Bool
  | [], _ => false
  | x :: r, n => if holdsF W x then (if n - 1 = 0 then true else cntF W r (n - 1)) else cntF W r n
end

set_option maxRecDepth 100000 in
theorem holds_calls_k (Γ : Nat → Option (List AV)) (who : List Int) (c : Nat) : ∀ (k : Nat) (g : Gt) (h : AH) (m : Nat), SizeOf.sizeOf g < k → Sh g → rightF g = true → h[m]? = some (.map (entsFrom 0 who) c) →
    ACalls Tryz.prog Γ 27 [encG g, .map (some m)] h fun v h' => h' = h ∧ v = .bool (holdsF (fun p => decide (p ∈ who)) g)
  | 0, _, _, _, hk, _, _, _ => absurd hk (Nat.not_lt_zero _)
  | k + 1, .mk p n l, h, m, hsz, hs, hr, hm => by
    have hm' := hget_of hm
    refine ACalls.drop ?_
    refine acalls_code (rs := [.cell 4 4]) Tryz.func27 rfl rfl rfl rfl Ty.mixed (by kernel_rfl) ?_
    simp only [encG_mk]
    simp (disch := omega) only [go_sem, seval]
    refine aIf.intro (fun h1 => ?_) (fun h1 => ?_) <;> simp (disch := omega) only [go_sem, seval]
    · simp (disch := omega) only [go_sem, seval, hget_in, hm, look_ents]
      simp only [holdsF, if_pos h1]
      congr 1
      by_cases hp : p ∈ who <;> simp [hp]
    refine acalls_code (rs := [.tmp 4]) Tryz.func40 rfl rfl rfl rfl Ty.mixed (by kernel_rfl) ?_
    simp (disch := omega) only [go_sem, seval]
    refine AWP.keep [18, 5, 4] ?_
    simp (disch := omega) only [go_sem, seval]
    refine awp_rangeFuncL rfl (fun li hli => ?_)
    simp (disch := omega) only [go_sem, seval]
    obtain ⟨K, hK⟩ : ∃ K : Int → Bool → AObj → AH, K = fun x b lo => h ++ [.row [.int .i64 p, .int .i64 n, .sl (l.map encG) .free] 34, .row [.bool b] 4, .row [.int .i64 x] 3, .row [.int .i64 p, .int .i64 n, .sl (l.map encG) .free] 34, .row [.map (some m)] 61, lo] := ⟨_, rfl⟩
    have Klen : ∀ x b lo, (K x b lo).length = h.length + 6 := by subst hK; simp
    have Kb : ∀ x b lo j, (K x b lo ++ j)[h.length + 1]? = some (.row [.bool b] 4) := by subst hK; simp
    have Kn : ∀ x b lo j, (K x b lo ++ j)[h.length + 2]? = some (.row [.int .i64 x] 3) := by subst hK; simp
    have Kd : ∀ x b lo j, (K x b lo ++ j)[h.length + 3]? = some (.row [.int .i64 p, .int .i64 n, .sl (l.map encG) .free] 34) := by subst hK; simp
    have Ke : ∀ x b lo j, (K x b lo ++ j)[h.length + 4]? = some (.row [.map (some m)] 61) := by subst hK; simp
    have Kl : ∀ x b lo j, (K x b lo ++ j)[h.length + 5]? = some lo := by subst hK; simp
    have Km : ∀ x b lo j, (K x b lo ++ j)[m]? = some (.map (entsFrom 0 who) c) := by subst hK; intros; rw [List.append_assoc, hget_in _ hm']; exact hm
    have Kj : ∀ x b lo j r, (K x b lo ++ (j ++ [r]))[h.length + 6 + j.length]? = some r := by intro x b lo j r; rw [← Klen x b lo, hget_add]; simp
    have Sb : ∀ x b lo j b', (K x b lo ++ j).set (h.length + 1) (.row [.bool b'] 4) = K x b' lo ++ j := by subst hK; simp
    have Sn : ∀ x b lo j x', (K x b lo ++ j).set (h.length + 2) (.row [.int .i64 x'] 3) = K x' b lo ++ j := by subst hK; simp
    have Sl : ∀ x b lo j lo', (K x b lo ++ j).set (h.length + 5) lo' = K x b lo' ++ j := by subst hK; simp
    have Sj : ∀ x b lo j r r', (K x b lo ++ (j ++ [r])).set (h.length + 6 + j.length) r' = K x b lo ++ (j ++ [r']) := by intro x b lo j r r'; rw [← Klen x b lo, hset_add]; simp
    refine ACalls.heap (h1 := K n false (.loop .ready none li) ++ []) ?_ (by subst hK; simp)
    refine acalls_code (rs := []) Tryz.func64 rfl rfl rfl rfl Ty.mixed (by kernel_rfl) ?_
    have HK : ∀ x b, LoopKept (h ++ [.row [.int .i64 p, .int .i64 n, .sl (l.map encG) .free] 34, .row [.bool false] 4, .row [.int .i64 n] 3, .row [.int .i64 p, .int .i64 n, .sl (l.map encG) .free] 34, .row [.map (some m)] 61])
        (h ++ [.row [.int .i64 p, .int .i64 n, .sl (l.map encG) .free] 34, .row [.bool b] 4, .row [.int .i64 x] 3, .row [.int .i64 p, .int .i64 n, .sl (l.map encG) .free] 34, .row [.map (some m)] 61]) := fun x b => by
      have q1 := LoopKept.set (h := h ++ [.row [.int .i64 p, .int .i64 n, .sl (l.map encG) .free] 34, .row [.bool false] 4, .row [.int .i64 n] 3, .row [.int .i64 p, .int .i64 n, .sl (l.map encG) .free] 34, .row [.map (some m)] 61])
        (i := h.length + 1) (ob := .row [.bool b] 4) (RBs.cons (.bool _) (RBs.nil _)) (by simp)
      have q2 := LoopKept.set (h := h ++ [.row [.int .i64 p, .int .i64 n, .sl (l.map encG) .free] 34, .row [.bool b] 4, .row [.int .i64 n] 3, .row [.int .i64 p, .int .i64 n, .sl (l.map encG) .free] 34, .row [.map (some m)] 61])
        (i := h.length + 2) (ob := .row [.int .i64 x] 3) (RBs.cons (.int _ _) (RBs.nil _)) (by simp)
      simp only [hset_add, List.set_cons_succ, List.set_cons_zero] at q1 q2
      exact q1.trans q2
    have Kd0 : ∀ x b lo, (K x b lo)[h.length + 3]? = some (.row [.int .i64 p, .int .i64 n, .sl (l.map encG) .free] 34) := fun x b lo => by simpa using Kd x b lo []
    simp (disch := omega) only [go_sem, seval, Kd0]
    have hN : 1 ≤ n ∧ n ≤ 4096 ∧ ∀ x ∈ l, rightF x = true := by
      simp [rightF, h1, rightL_all] at hr
      exact ⟨by omega, by omega, hr.2⟩
    refine awp_loopL (β := Int × AH) l [9, 8, 7, 0, 2] (fun don _ => [(9, .int .i64 don.length), (8, .int .i64 l.length), (7, .sl (l.map encG) .free), (0, .yield (h.length + 5)), (2, .ptr (some (h.length + 4, 0)))])
      (fun b => K b.1 false (.loop .ready none li) ++ b.2) (fun don rest b => 1 ≤ b.1 ∧ b.1 ≤ n ∧ cntF (fun p => decide (p ∈ who)) l n = cntF (fun p => decide (p ∈ who)) rest b.1) (n, []) ?_ (by simp) ⟨hN.1, by simp, rfl⟩ Ty.mixed (by kernel_rfl) ?_ ?_
    · simp (disch := omega) only [go_sem, seval]
    · rintro don x r ⟨b, j⟩ rfl ⟨hb1, hb2, hb⟩
      simp only at hb1 hb2 hb ⊢
      have hl3 := len_mid hs.len
      simp (disch := omega) only [go_sem, seval, List.map_append, List.map_cons, List.length_append]
      refine aIf.pos (by omega) ?_
      simp (disch := omega) only [go_sem, seval, Klen, Kj, Sj, Ke]
      refine ACalls.det (holds_calls_k Γ who c k x _ m (mem_sz (by simp) hsz) (hs.mem x (by simp)) (hN.2.2 x (by simp)) (Km _ _ _ _)) ?_
      simp (disch := omega) only [go_sem, seval]
      refine aBr.intro (fun hh => ?_) (fun hh => ?_) <;> simp (disch := omega) only [go_sem, seval, Kj]
      · refine ayield_L hli (Kl _ _ _ _) rfl rfl Ty.mixed (by kernel_rfl) rfl ?_
        simp (disch := omega) only [go_sem, seval, Kl, Kn, Sl, Sn, Kb, Sb]
        refine aIf.intro (fun hb0 => ?_) (fun hb0 => ?_) <;> simp (disch := omega) only [go_sem, seval]
        · simp (disch := omega) only [go_sem, seval, Kl, Kn, Sl, Sn, Kb, Sb]
          refine ⟨_, .done, some .ret, j ++ [.row (encG x).cells 34], by subst hK; simp only [List.append_assoc, List.cons_append, List.nil_append]; rw [app5], by simpa using HK (b - 1) true, by simp, ?_⟩
          refine afterLoop_some Ty.mixed (by kernel_rfl) ?_
          simp (disch := omega) only [go_sem, seval]
          simp only [holdsF, if_neg h1]
          rw [hb, cntF, if_pos hh, if_pos hb0]
        · simp (disch := omega) only [go_sem, seval, Kl, Kn, Sl, Sn, Kb, Sb]
          refine roundL_next (b - 1, j ++ [.row (encG x).cells 34]) ⟨by simp only; omega, by simp only; omega, ?_⟩ ?_ rfl
          · rw [hb, cntF, if_pos hh, if_neg hb0]
          · simp (disch := omega) only [go_sem, seval, List.length_append, List.map_append, List.map_cons]
      · refine roundL_next (b, j ++ [.row (encG x).cells 34]) ⟨hb1, hb2, ?_⟩ ?_ rfl
        · rw [hb, cntF, if_neg (by simp [hh])]
        · simp (disch := omega) only [go_sem, seval, List.length_append, List.map_append, List.map_cons]
    · rintro ⟨b, j⟩ ⟨hb1, hb2, hb⟩
      simp (disch := omega) only [go_sem, seval]
      refine ⟨_, .ready, none, j, by subst hK; simp only [List.append_assoc, List.cons_append, List.nil_append]; rw [app5], by simpa using HK b false, by simp, ?_⟩
      simp (disch := omega) only [go_sem, seval]
      refine AWP.keep [4] (aCode_ok Ty.mixed _ _ _ _ (by kernel_rfl) ?_)
      simp (disch := omega) only [go_sem, seval]
      simp only [holdsF, if_neg h1]
      rw [hb, cntF]
end Go.Proofs.YtplllkjobpjaoaaGreatDoor.Fr
