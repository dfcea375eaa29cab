/- Texts joined: LivA, LivB, LivC, LivD. No conditions. -/
import Derived.Test.YtelehpccfaedjaaMrJ
import Derived.Test.YtelehpccfaedjaaMrI
/- The program's check of formulas and people: whom it gathers. No conditions. -/
set_option linter.unusedSimpArgs false
set_option linter.unusedVariables false
namespace Go.Proofs.Ytelehpccfaedjaa
open Go Go.Proofs Go.Abs

/-- A set of people as a map's entries. -/
def entsB : Nat → List Int → List (Nat × AV × AV)
  | _, [] => []
  | i, n :: r => (i, .int .i64 n, .bool true) :: entsB (i + 1) r
theorem entsB_app (l r : List Int) (i : Nat) : entsB i (l ++ r) = entsB i l ++ entsB (i + l.length) r := by
  induction l generalizing i with
  | nil => simp [entsB]
  | cons a l ih => simp [entsB, ih, Nat.add_assoc, Nat.add_comm 1]
theorem entsB_find (p : Int) (l : List Int) (i : Nat) : (p ∈ l ∧ ∃ j e, aFind (.int .i64 p) (entsB i l) = some (some j) ∧ (entsB i l)[j]? = some e ∧ e.2 = (.int .i64 p, .bool true)) ∨ (p ∉ l ∧ aFind (.int .i64 p) (entsB i l) = some none) := by
  induction l generalizing i with
  | nil => exact .inr ⟨by simp, rfl⟩
  | cons a r ih =>
    by_cases ha : p = a
    · subst ha
      exact .inl ⟨by simp, 0, _, by simp [entsB, aFind], rfl, rfl⟩
    · rcases ih (i + 1) with ⟨h1, j, e, h2, h3, h4⟩ | ⟨h1, h2⟩
      · exact .inl ⟨by simp [h1], j + 1, e, by simp [entsB, aFind, ha, h2], by simpa [entsB] using h3, h4⟩
      · exact .inr ⟨by simp [ha, h1], by simp [entsB, aFind, ha, h2]⟩
def addK (n : Int) (ks : List Int) : List Int := if n ∈ ks then ks else ks ++ [n]
theorem put_ents (n : Int) (ks : List Int) : (aFind (.int .i64 n) (entsB 0 ks)).bind (putEnt (entsB 0 ks) ks.length (.int .i64 n) (.bool true)) = some (.map (entsB 0 (addK n ks)) (addK n ks).length) := by
  rcases entsB_find n ks 0 with ⟨h1, j, e, h2, h3, h4⟩ | ⟨h1, h2⟩
  · rw [h2, addK, if_pos h1]
    obtain ⟨e1, e2⟩ := e
    simp only at h4
    subst h4
    simp only [Option.bind_some, putEnt, h3, Option.map_some]
    congr 2
    apply List.ext_getElem?
    intro k
    rw [List.getElem?_set]
    split
    · rename_i hk; subst hk
      rw [if_pos (List.getElem?_eq_some_iff.1 h3).1, h3]
    · rfl
  · rw [h2, addK, if_neg h1]
    simp [putEnt, entsB_app, entsB]
mutual
def keysF : List Int → Gt → List Int
  | ks, .mk p _ l => keysL (if 0 ≤ p then addK p ks else ks) l
def keysL : List Int → List Gt → List Int
  | ks, [] => ks
  | ks, x :: r => keysL (keysF ks x) r
end
theorem keysL_app : ∀ (a b : List Gt) (ks : List Int), keysL ks (a ++ b) = keysL (keysL ks a) b
  | [], _, _ => rfl
  | x :: a, b, ks => by simp only [List.cons_append, keysL]; exact keysL_app a b _
def mapO (ks : List Int) : AObj := .map (entsB 0 ks) ks.length
theorem rb_mapO (n : Nat) (ks : List Int) : RBobj n (mapO ks) := by
  have : ∀ (ks : List Int) (i j : Nat) (e : Nat × AV × AV), (entsB i ks)[j]? = some e → RB n e.2.1 ∧ RB n e.2.2 := fun ks => by
    induction ks with
    | nil => intro i j e he; simp [entsB] at he
    | cons a r ih =>
      intro i j e he
      cases j with
      | zero => simp [entsB] at he; subst he; exact ⟨.int _ _, .bool _⟩
      | succ j => exact ih (i + 1) j e (by simpa [entsB] using he)
  exact this ks 0
theorem kept_map (h : AH) (M : Nat) (ks : List Int) : LoopKept h (h.set M (mapO ks)) := LoopKept.set (rb_mapO _ ks) (fun _ _ _ e => by cases e)
end Go.Proofs.Ytelehpccfaedjaa

/- The program's check of a gate and a list of people. No conditions. -/
set_option linter.unusedSimpArgs false
set_option linter.unusedVariables false
namespace Go.Proofs.Ytelehpccfaedjaa
open Go Go.Proofs Go.Abs

/-! ### Lists of one's own as arrays -/
/-- A list of one's own: nil, or an array with room behind it. -/
def OwnM (b : Nat) (j : AH) (T : TypeId) (v : AV) (xs : List AV) : Prop :=
  (v = .sl [] .full ∧ xs = []) ∨ ∃ q c pad, v = .ms (b + q) 0 xs.length c 1 ∧ j[q]? = some (.row (xs ++ pad) T) ∧ c = xs.length + pad.length ∧ ∀ a ∈ pad, a.isAgg = false
theorem OwnM.more {b : Nat} {j : AH} {T : TypeId} {v : AV} {xs : List AV} (h : OwnM b j T v xs) (k : AH) : OwnM b (j ++ k) T v xs := by
  rcases h with h | ⟨q, c, pad, h1, h2, h3⟩
  · exact .inl h
  · exact .inr ⟨q, c, pad, h1, by rw [List.getElem?_append_left (List.getElem?_eq_some_iff.1 h2).1]; exact h2, h3⟩
theorem flat_I (l : List Int) : flat (encI l) = encI l := by
  induction l with
  | nil => rfl
  | cons x l ih =>
    have : flat (.int .i64 x :: encI l) = .int .i64 x :: flat (encI l) := rfl
    rw [encI_cons, this, ih]
theorem splice_app {xs pad ys : List AV} (h : xs.length + ys.length ≤ xs.length + pad.length) : splice (xs ++ pad) (0 + xs.length * 1) ys = xs ++ ys ++ pad.drop ys.length := by
  rw [Nat.zero_add, Nat.mul_one]
  rcases ys with _ | ⟨y, _ | ⟨z, ys⟩⟩
  · simp [splice]
  · cases pad with
    | nil => exact absurd h (by simp)
    | cons p pad => simp [splice]
  · simp [splice]
theorem aApM_own {v x : AV} {xs ys : List AV} {h j : AH} {T : TypeId} {by_ : Nat} {z : List AV} {Q : AV → AH → Prop} (hv : OwnM h.length j T v xs) (hs : SrcIs x (h ++ j) ys) (hx : RowsOK 1 ys) (hf : flat ys = ys) (hne : ys ≠ [])
    (h63 : xs.length + ys.length ≤ 9223372036854775807) (hby : (xs.length + ys.length) * by_ ≤ 140737488355328) (H : ∀ v' j', OwnM h.length j' T v' (xs ++ ys) → j.length ≤ j'.length → Q v' (h ++ j')) : aApM (some (1, by_, z, T)) v x (h ++ j) Q := by
  refine ⟨ys, hs, hx, ?_⟩
  rcases hv with ⟨rfl, rfl⟩ | ⟨q, c, pad, rfl, h2, h3, h4⟩
  · refine ⟨by simpa using h63, by simpa using hby, fun e => absurd e hne, fun _ c hc => ?_⟩
    rw [hf, List.append_assoc]
    have := H (.ms (h ++ j).length 0 ys.length c 1) (j ++ [.row (ys ++ List.replicate ((c - ys.length) * 1) .top) T]) (.inr ⟨j.length, c, List.replicate (c - ys.length) .top, by simp, by simp, by simp; omega, fun a ha => by rw [List.eq_of_mem_replicate ha]; rfl⟩) (by simp)
    simpa using this
  · have hq := (List.getElem?_eq_some_iff.1 h2).1
    have hg : (h ++ j)[h.length + q]? = some (.row (xs ++ pad) T) := by rw [hget_add]; exact h2
    refine ⟨rfl, h63, hby, by omega, ?_⟩
    rw [hg]
    refine ⟨by simp; omega, fun hle => ?_, fun hlt c' hc' => ?_⟩
    · have := H (.ms (h.length + q) 0 (xs.length + ys.length) c 1) (j.set q (.row (xs ++ ys ++ pad.drop ys.length) T)) (.inr ⟨q, c, pad.drop ys.length, by simp, by simp [hq], by simp; omega, fun a ha => h4 a (List.mem_of_mem_drop ha)⟩) (by simp)
      rw [hset_add, hf]
      rw [show splice (xs ++ pad) (0 + xs.length * 1) ys = xs ++ ys ++ pad.drop ys.length from splice_app (by omega)]
      exact this
    · have := H (.ms (h ++ j).length 0 (xs.length + ys.length) c' 1) (j ++ [.row (xs ++ ys ++ List.replicate ((c' - (xs.length + ys.length)) * 1) .top) T]) (.inr ⟨j.length, c', List.replicate (c' - (xs.length + ys.length)) .top, by simp, by simp, by simp; omega, fun a ha => by rw [List.eq_of_mem_replicate ha]; rfl⟩) (by simp)
      rw [hf]
      simpa using this

theorem OwnM.shift {b : Nat} {k j : AH} {T : TypeId} {v : AV} {xs : List AV} (h : OwnM (b + k.length) j T v xs) : OwnM b (k ++ j) T v xs := by
  rcases h with h | ⟨q, c, pad, h1, h2, h3, h4⟩
  · exact .inl h
  · exact .inr ⟨k.length + q, c, pad, by rw [h1, Nat.add_assoc], by rw [hget_add]; exact h2, h3, h4⟩
theorem OwnM.src {H j : AH} {T : TypeId} {v : AV} {l : List Int} (h : OwnM H.length j T v (encI l)) : SrcIs v (H ++ j) (encI l) := by
  rcases h with ⟨rfl, h2⟩ | ⟨q, c, pad, rfl, h2, h3, h4⟩
  · exact h2
  · refine ⟨encI l ++ pad, T, by rw [hget_add]; exact h2, rfl, by simp, fun x hx => ?_, by simp⟩
    rw [List.drop_zero, List.take_left] at hx
    obtain ⟨n, _, rfl⟩ := List.mem_map.1 hx; rfl
theorem aApM_all {v x : AV} {xs ys : List AV} {h j : AH} {T : TypeId} {by_ : Nat} {z : List AV} {Q : AV → AH → Prop} (hv : OwnM h.length j T v xs) (hs : SrcIs x (h ++ j) ys) (hx : RowsOK 1 ys) (hf : flat ys = ys)
    (h63 : xs.length + ys.length ≤ 9223372036854775807) (hby : (xs.length + ys.length) * by_ ≤ 140737488355328) (H : ∀ v' j', OwnM h.length j' T v' (xs ++ ys) → j.length ≤ j'.length → Q v' (h ++ j')) : aApM (some (1, by_, z, T)) v x (h ++ j) Q := by
  by_cases hne : ys = []
  · subst hne
    have key := H v j (by simpa using hv) (Nat.le_refl _)
    refine ⟨[], hs, hx, ?_⟩
    rcases hv with ⟨rfl, rfl⟩ | ⟨q, c, pad, rfl, h2, h3, h4⟩
    · exact ⟨by simp, by simp, fun _ => key, fun e => absurd rfl e⟩
    · have hg : (h ++ j)[h.length + q]? = some (.row (xs ++ pad) T) := by rw [hget_add]; exact h2
      refine ⟨rfl, h63, hby, by omega, ?_⟩
      rw [hg]
      refine ⟨by simp; omega, fun _ => ?_, fun hlt => by simp at hlt; omega⟩
      rw [show splice (xs ++ pad) (0 + xs.length * 1) (flat []) = xs ++ pad from by rw [hf]; simp [splice], hset_same hg]
      exact key
  · exact aApM_own hv hs hx hf hne h63 hby H

/-- **The end of a function whose result may hold an array of its own**, a list from now on. -/
theorem ACalls.endM {P : Program} {Γ : Nat → Option (List AV)} {f : FuncId} {args : List AV} {h : AH} {R : AV → Prop} (H : ACalls P Γ f args h fun v h' => (∃ l, h' = h ++ l) ∧ ((RB h.length (loose v) ∧ R (loose v)) ∨ ∃ q cs T, h'[h.length + q]? = some (.row cs T) ∧ RB h.length (loose (fzV (h.length + q) cs v)) ∧ R (loose (fzV (h.length + q) cs v)))) :
    ACalls P Γ f args h fun v h' => h' = h ∧ R v := by
  refine ACalls.dropL ⟨H.1, fun G w vs hI hv => (H.2 G w vs hI hv).mono fun e w' hr => ?_⟩
  obtain ⟨v, G', av, h', k1, k2, k3, k4, ⟨l, rfl⟩, k5 | ⟨q, cs, T, e1, k5⟩⟩ := hr
  · exact ⟨v, G', av, _, k1, k2, k3, k4, ⟨l, rfl⟩, k5⟩
  · obtain ⟨b, vals, q1, q2, q3⟩ := k3.freeze e1 (Froze.set e1)
    exact ⟨v, _, _, _, k1, k2.trans q1, q2, q3 _ _ k4, ⟨l.set q .frozen, hset_add h l q .frozen⟩, k5⟩

theorem fzL_maps {α : Type} (f : α → AV) {i : Nat} {cs : List AV} (hf : ∀ a, fzV i cs (f a) = f a) (l : List α) : fzL i cs (l.map f) = l.map f := by
  rw [fzL_map, List.map_map]
  exact List.map_congr_left fun a _ => hf a
theorem fz_tuple (i : Nat) (cs l : List AV) : fzV i cs (.tuple l) = .tuple (fzL i cs l) := rfl
theorem fz_agg (i : Nat) (cs l : List AV) : fzV i cs (.agg l) = .agg (fzL i cs l) := rfl
theorem fz_sl (i : Nat) (cs l : List AV) (o : Abs.Own) : fzV i cs (.sl l o) = .sl (fzL i cs l) o := rfl
theorem fz_int (i : Nat) (cs : List AV) (k : IntKind) (n : Int) : fzV i cs (.int k n) = .int k n := rfl
theorem fz_bool (i : Nat) (cs : List AV) (b : Bool) : fzV i cs (.bool b) = .bool b := rfl
theorem fz_cons (i : Nat) (cs l : List AV) (a : AV) : fzL i cs (a :: l) = fzV i cs a :: fzL i cs l := rfl
theorem fz_nil (i : Nat) (cs : List AV) : fzL i cs [] = [] := rfl
theorem fz_G (i : Nat) (cs : List AV) : ∀ g : Gt, fzV i cs (encG g) = encG g
  | .mk p n l => by
    have : fzL i cs (l.map encG) = l.map encG := by
      rw [fzL_map, List.map_map]
      exact List.map_congr_left fun g hg => fz_G i cs g
    simp [encG_mk, fzV, fzL, this]
theorem fz_Gs (i : Nat) (cs : List AV) (l : List Gt) : fzL i cs (l.map encG) = l.map encG := fzL_maps _ (fz_G i cs) l
theorem fz_I (i : Nat) (cs : List AV) (l : List Int) : fzL i cs (encI l) = encI l := fzL_maps _ (fun _ => rfl) l
theorem fz_own (i c : Nat) (l : List Int) (pad : List AV) (hc : l.length ≤ c) (hp : ∀ a ∈ pad, a.isAgg = false) : fzV i (encI l ++ pad) (.ms i 0 l.length c 1) = .sl (encI l) .free := by
  rw [fzV, if_pos, List.drop_zero, rowsOf_one _ _ (by simp [encI_len]), List.take_append_of_le_length (by simp [encI_len]), ← encI_len l, List.take_length]
  refine ⟨rfl, ?_⟩
  simp only [fzOK, Bool.and_eq_true, decide_eq_true_eq, bne_iff_ne, List.all_eq_true, Bool.not_eq_true', List.length_append, encI_len]
  refine ⟨⟨⟨by omega, hc⟩, by decide⟩, fun a ha => ?_⟩
  rcases List.mem_append.1 ha with ha | ha
  · obtain ⟨x, _, rfl⟩ := List.mem_map.1 ha; rfl
  · exact hp a ha

/-! ### Entries of a set of people -/
theorem entsB_len (l : List Int) (i : Nat) : (entsB i l).length = l.length := by
  induction l generalizing i with
  | nil => rfl
  | cons a l ih => simp [entsB, ih]
theorem entsB_mem (l : List Int) (i : Nat) (e : Nat × AV × AV) (h : e ∈ entsB i l) : ∃ b, b < l.length ∧ e = (i + b, .int .i64 (l.getD b 0), .bool true) := by
  induction l generalizing i with
  | nil => simp [entsB] at h
  | cons a l ih =>
    rcases List.mem_cons.1 h with rfl | h
    · exact ⟨0, by simp, by simp⟩
    · obtain ⟨b, h1, h2⟩ := ih _ h
      exact ⟨b + 1, by simpa using h1, by rw [h2]; simp [Nat.add_assoc, Nat.add_comm 1]⟩
theorem entsB_at (l : List Int) (i b : Nat) (h : b < l.length) : (entsB i l).find? (·.1 == i + b) = some (i + b, .int .i64 (l.getD b 0), .bool true) ∧ (i + b, AV.int .i64 (l.getD b 0), AV.bool true) ∈ entsB i l := by
  induction l generalizing i b with
  | nil => simp at h
  | cons a l ih =>
    cases b with
    | zero => simp [entsB]
    | succ b =>
      obtain ⟨h1, h2⟩ := ih (i + 1) b (by simpa using h)
      have e : i + (b + 1) = i + 1 + b := by omega
      refine ⟨?_, ?_⟩
      · rw [e, entsB, List.find?_cons_of_neg (by simp; omega), h1]; rfl
      · rw [e]; simp [entsB] at h2 ⊢; exact .inr h2
/-- The numbers met so far. -/
def metF (ks : List Int) (seen : List Nat) : List Int := seen.map fun b => ks.getD b 0
theorem met_all {ks : List Int} {seen : List Nat} (h1 : seen.Nodup) (h2 : ∀ b ∈ seen, b < ks.length) (h3 : ∀ b, b < ks.length → b ∈ seen) : (metF ks seen).Perm ks := by
  have hp : seen.Perm (List.range ks.length) := by
    rw [List.perm_ext_iff_of_nodup h1 List.nodup_range]
    intro a
    rw [List.mem_range]
    exact ⟨h2 a, h3 a⟩
  refine (hp.map _).trans ?_
  have : (List.range ks.length).map (fun b => ks.getD b 0) = ks := by
    apply List.ext_getElem
    · simp
    · intro i h1 h2; simp at h1; simp [h1]
  rw [this]
theorem nodup_le : ∀ (a l : List Nat), a.Nodup → (∀ b ∈ a, b ∈ l) → a.length ≤ l.length
  | [], l, _, _ => by simp
  | x :: a, l, h, hm => by
    rw [List.nodup_cons] at h
    have hx := hm x (by simp)
    have := nodup_le a (l.erase x) h.2 fun b hb => (List.mem_erase_of_ne (fun e => by subst e; exact h.1 hb)).2 (hm b (by simp [hb]))
    rw [List.length_erase_of_mem hx] at this
    have := List.length_pos_of_mem hx
    simp; omega
theorem met_len {ks : List Int} {seen : List Nat} (h1 : seen.Nodup) (h2 : ∀ b ∈ seen, b < ks.length) : seen.length ≤ ks.length := by
  have := nodup_le seen (List.range ks.length) h1 (fun b hb => List.mem_range.2 (h2 b hb))
  simpa using this
end Go.Proofs.Ytelehpccfaedjaa

/- The program's check of a gate and a list of people: the code. No conditions. -/
set_option linter.unusedSimpArgs false
set_option linter.unusedVariables false
namespace Go.Proofs.Ytelehpccfaedjaa
open Go Go.Proofs Go.Abs

def strA (p n : Int) (l : List Gt) (ppl : List Int) : AV := .agg [.int .i64 p, .int .i64 n, .sl (l.map encG) .free, .sl (encI ppl) .free]
def lerrF (g : Gt) (al : List Int) : Int := if checkF g = 0 then (if 12 < (keysF [] g).length then 2 else if ascF (-1) al then 0 else 1) else checkF g
def lstrF : Gt → List Int → AV
  | .mk p n l, al => if lerrF (.mk p n l) al = 0 then strA p n l (sortI (keysF [] (.mk p n l))) else strA 0 0 [] []
/-! ### Sorting nothing -/
set_option maxRecDepth 100000 in
theorem isort0_calls (Γ : Nat → Option (List AV)) (o : Abs.Own) (h : AH) :
    ACalls Try.prog Γ 128 [.sl [] o, .int .i64 0, .int .i64 0] h fun v h' => h' = h := by
  refine acalls_code (rs := []) Try.func128 rfl rfl rfl rfl Ty.mixed (by kernel_rfl) ?_
  simp (disch := omega) only [go_sem, seval]
  refine awp_loopS (α := Unit) [2, 6] (fun s => [(2, .int .i64 0), (6, .int .i64 1)]) (fun s => h) (fun s => True) (fun _ => 0) () ?_ rfl trivial Ty.mixed (by kernel_rfl) ?_
  · simp (disch := omega) only [go_sem, seval]
  rintro _ _
  simp (disch := omega) only [go_sem, seval]
  first | (refine AWP.keep [] (aCode_ok Ty.mixed _ _ _ _ (by kernel_rfl) ?_); simp (disch := omega) only [go_sem, seval]) | skip
set_option maxRecDepth 100000 in
theorem pdq0_calls (Γ : Nat → Option (List AV)) (o : Abs.Own) (m : Int) (h : AH) :
    ACalls Try.prog Γ 112 [.sl [] o, .int .i64 0, .int .i64 0, .int .i64 m] h fun v h' => h' = h := by
  refine acalls_code (rs := []) Try.func112 rfl rfl rfl rfl Ty.mixed (by kernel_rfl) ?_
  simp (disch := omega) only [go_sem, seval]
  refine awp_loopS (α := Unit) [0, 1, 2, 3, 8, 9] (fun _ => [(0, .sl [] o), (1, .int .i64 0), (2, .int .i64 0), (3, .int .i64 m), (8, .bool true), (9, .bool true)])
    (fun _ => h) (fun _ => True) (fun _ => 0) () ?_ rfl trivial Ty.mixed (by kernel_rfl) ?_
  · simp (disch := omega) only [go_sem, seval]
  rintro _ _
  simp (disch := omega) only [go_sem, seval]
  refine ACalls.then (isort0_calls Γ o _) ?_
  rintro _ _ rfl
  simp (disch := omega) only [go_sem, seval]
set_option maxRecDepth 100000 in
theorem sort0_calls (Γ : Nat → Option (List AV)) (o : Abs.Own) (h : AH) :
    ACalls Try.prog Γ 80 [.sl [] o] h fun v h' => h' = h := by
  refine acalls_code (rs := []) Try.func80 rfl rfl rfl rfl Ty.mixed (by kernel_rfl) ?_
  simp (disch := omega) only [go_sem, seval]
  rw [IntWalk.u64_in _ ⟨by omega, by omega⟩]
  refine ACalls.then (len_calls Γ _ _ (by omega) (by omega)) ?_
  rintro _ _ ⟨rfl, m, rfl⟩
  simp (disch := omega) only [go_sem, seval]
  refine ACalls.then (pdq0_calls Γ o m _) ?_
  rintro _ _ rfl
  simp (disch := omega) only [go_sem, seval]
structure CkS where
  seen : List Nat
  v : AV
  j : AH
end Go.Proofs.Ytelehpccfaedjaa

/- Copies of lists, deleting from them, lists without others. No conditions. -/
set_option linter.unusedSimpArgs false
set_option linter.unusedVariables false
namespace Go.Proofs.Ytelehpccfaedjaa
open Go Go.Proofs Go.Abs

/-! ### A function's code, arrays being of its own -/
theorem acalls_codeM {P : Program} {Γ : Nat → Option (List AV)} {h : AH} {f : FuncId} {fn : Func} {c : Code} {args : List AV} {rs : List ResultVar} {R : AV → AH → Prop} (hf : P.funcs[f]? = some fn) (hb : fn.body = some c) (hn : (fn.name == "runtime.NumGoroutine") = false)
    (hN : Nat.ble args.length fn.ntmps = true) (hM : Nat.ble fn.ntmps 1000000 = true) (hrs : fn.results = rs.toArray) (hm : P.follows .mixedOrders = true) (hc : codeOK fn.ntmps c = true) (H : aCode P Γ fn.ntmps c (endA P rs R) ((1000000, .tuple []) :: argsT 0 args) h) : ACalls P Γ f args h R :=
  acalls_of_awp hf hb hn hN hrs (AWP.mark (by simpa [Nat.ble_eq] using hM) (aCode_ok hm c _ _ _ hc H))
/-- All owners forgotten. -/
def lzs (σ : Tm) : Tm := σ.map fun p => (p.1, loose p.2)
theorem lk_lzs (σ : Tm) (i : Nat) : lk (lzs σ) i = loose (lk σ i) := by
  induction σ with
  | nil => rfl
  | cons p σ ih =>
    obtain ⟨q, v⟩ := p
    simp only [lzs, List.map_cons, lk] at ih ⊢
    split
    · rfl
    · exact ih
@[go_sem] theorem lzs_nil : lzs [] = [] := rfl
@[go_sem] theorem lzs_cons (i : Nat) (v : AV) (σ : Tm) : lzs ((i, v) :: σ) = (i, loose v) :: lzs σ := rfl
theorem AWP.lzs {P : Program} {Γ : Nat → Option (List AV)} {N : Nat} {c : Code} {Q : Exit → Tm → AH → Prop} {σ : Tm} {h : AH} (H : AWP P Γ N c Q (lzs σ) h) : AWP P Γ N c Q σ h :=
  H.wks fun G i v hv => by rw [lk_lzs]; exact loose_VR hv

theorem aCut_msLo (n i off len cap sz : Nat) (k : IntKind) (l : Int) (K : AV → Prop) :
    aCut (some (some n)) (.ms i off len cap sz) (some (.int k l)) none none K = (n = sz ∧ 0 ≤ l ∧ l ≤ len ∧ len ≤ cap ∧ K (.ms i (if (cap : Int) = l then off else off + l.toNat * sz) (len - l.toNat) (cap - l.toNat) sz)) := by
  simp only [aCut, aNat, Option.isSome_none, Bool.false_eq_true, false_implies, Int.le_refl, true_and, Int.toNat_natCast]
  apply propext; constructor
  · rintro ⟨h1, h2, h3, h4, h5⟩; exact ⟨h1, h2, h3, by omega, h5⟩
  · rintro ⟨h1, h2, h3, h4, h5⟩; exact ⟨h1, h2, h3, by omega, h5⟩
theorem aCut_msHi (n i off len cap sz : Nat) (k : IntKind) (u : Int) (K : AV → Prop) :
    aCut (some (some n)) (.ms i off len cap sz) none (some (.int k u)) none K = (n = sz ∧ 0 ≤ u ∧ u ≤ cap ∧ K (.ms i (if (cap : Int) = 0 then off else off + 0 * sz) u.toNat cap sz)) := by
  simp only [aCut, aNat, Option.isSome_none, Bool.false_eq_true, false_implies, Int.le_refl, true_and, Int.toNat_natCast, Int.toNat_zero, Nat.sub_zero, Int.ofNat_zero, Int.natCast_zero]

@[go_sem] theorem aBuiltin_clear {P : Program} {h : AH} (t : TypeId) (x : AV) (K : AV → AH → Prop) : aBuiltin P .clear [t] [x] h K = aClear P t x h K := (rfl)
theorem zrow_int (k : Nat) : zrow k [AV.int .i64 0] = encI (List.replicate k 0) := by
  induction k with
  | zero => rfl
  | succ k ih => simp only [zrow, List.replicate_succ, List.flatten_cons, encI_cons] at ih ⊢; rw [ih]; rfl

/-! ### Whether a number is in a list -/
set_option maxRecDepth 100000 in
theorem index_calls_I (Γ : Nat → Option (List AV)) (l : List Int) (x : Int) (h : AH) (hl : l.length ≤ 9223372036854775807) :
    ACalls Try.prog Γ 99 [.sl (encI l) .free, .int .i64 x] h fun v h' => h' = h ∧ ∃ m, v = .int .i64 m ∧ (0 ≤ m ↔ x ∈ l) := by
  refine acalls_code (rs := [.tmp 4]) Try.func99 rfl rfl rfl rfl Ty.mixed (by kernel_rfl) ?_
  simp (disch := omega) only [go_sem, seval]
  refine awp_loopL (β := Unit) l [8, 7, 1, 0] (fun don _ => [(8, .int .i64 don.length), (7, .int .i64 l.length), (1, .int .i64 x), (0, .sl (encI l) .free)])
      (fun b => h) (fun don rest b' => x ∈ l ↔ x ∈ rest) () ?_ rfl Iff.rfl Ty.mixed (by kernel_rfl) ?_ ?_
  · simp (disch := omega) only [go_sem, seval, encI_len]
  · rintro don y r _ rfl hs
    have hl3 := len_mid hl
    have e1 : (encI (don ++ y :: r))[don.length]? = some (.int .i64 y) := by simp [encI]
    simp (disch := omega) only [go_sem, seval, encI_len, List.length_append, List.length_cons]
    refine aIf.pos (by omega) ?_
    simp (disch := omega) only [go_sem, seval, encI_len, List.length_append, List.length_cons, e1]
    refine aIf.intro (fun h1 => ?_) (fun h1 => ?_) <;> simp (disch := omega) only [go_sem, seval]
    · refine ⟨_, rfl, ?_⟩
      rw [hs]; simp [h1]
    · refine roundL_next () ?_ ?_ rfl
      · rw [hs]; simp [h1]
      · simp (disch := omega) only [go_sem, seval, List.length_append]
  · intro _ hs
    simp (disch := omega) only [go_sem, seval, encI_len]
    refine AWP.keep [0] (aCode_ok Ty.mixed _ _ _ _ (by kernel_rfl) ?_)
    simp (disch := omega) only [go_sem, seval]
    refine ⟨_, rfl, ?_⟩
    rw [hs]; simp
/-! ### Copies -/
/-! ### Deleting -/
set_option maxRecDepth 100000 in
theorem findI_calls (Γ : Nat → Option (List AV)) (l : List Int) (p : Int → Bool) (fn : FuncId) (fs cs : List AV) (i c : Nat) (pad : List AV) (T : TypeId) (h : AH) (hl : l.length ≤ 1000000)
    (hi : h[i]? = some (.row (encI l ++ pad) T)) (H : ∀ x, ACalls Try.prog Γ fn (fs ++ .int .i64 x :: cs) h fun v h' => h' = h ∧ v = .bool (p x)) :
    ACalls Try.prog Γ 115 [.ms i 0 l.length c 1, .func fn fs cs] h fun v h' => h' = h ∧ ∃ m, v = .int .i64 m ∧ ((m = -1 ∧ ∀ x ∈ l, p x = false) ∨ ∃ a x r, l = a ++ x :: r ∧ m = a.length ∧ p x = true ∧ ∀ y ∈ a, p y = false) := by
  refine acalls_code (rs := [.tmp 4]) Try.func115 rfl rfl rfl rfl Ty.mixed (by kernel_rfl) ?_
  simp (disch := omega) only [go_sem, seval]
  refine awp_loopL (β := Unit) l [8, 7, 1, 0] (fun don _ => [(8, .int .i64 don.length), (7, .int .i64 l.length), (1, .func fn fs cs), (0, .ms i 0 l.length c 1)])
      (fun b => h) (fun don rest b' => ∀ y ∈ don, p y = false) () ?_ rfl (by simp) Ty.mixed (by kernel_rfl) ?_ ?_
  · simp (disch := omega) only [go_sem, seval]
  · rintro don y r _ rfl hs
    have hl3 := len_mid hl
    simp (disch := omega) only [go_sem, seval, List.length_append, List.length_cons]
    refine aIf.pos (by omega) ?_
    simp (disch := omega) only [go_sem, seval, List.length_append, List.length_cons, Nat.zero_add, Nat.mul_one, hi, encI_app, encI_cons, drop_at, List.append_assoc, List.cons_append]
    refine ⟨by omega, ?_⟩
    refine ACalls.det (H y) ?_
    simp (disch := omega) only [go_sem, seval]
    refine aBr.intro (fun hb => ?_) (fun hb => ?_) <;> simp (disch := omega) only [go_sem, seval]
    · exact ⟨_, rfl, .inr ⟨don, y, r, rfl, rfl, hb, hs⟩⟩
    · refine roundL_next () ?_ ?_ rfl
      · intro z hz
        rcases List.mem_append.1 hz with hz | hz
        · exact hs z hz
        · simp at hz; subst hz; simpa using hb
      · simp (disch := omega) only [go_sem, seval, List.length_append]
  · intro _ hs
    simp (disch := omega) only [go_sem, seval]
    refine AWP.keep [0] (aCode_ok Ty.mixed _ _ _ _ (by kernel_rfl) ?_)
    simp (disch := omega) only [go_sem, seval]
    exact ⟨_, rfl, .inl ⟨rfl, hs⟩⟩
structure DelS where
  kept : List Int
  g : List Int
  rest : List Int
set_option maxRecDepth 100000 in
theorem find0_calls (Γ : Nat → Option (List AV)) (fv : AV) (o : Abs.Own) (h : AH) :
    ACalls Try.prog Γ 115 [.sl [] o, fv] h fun v h' => h' = h ∧ v = .int .i64 (-1) := by
  refine acalls_code (rs := [.tmp 4]) Try.func115 rfl rfl rfl rfl Ty.mixed (by kernel_rfl) ?_
  simp (disch := omega) only [go_sem, seval]
  refine awp_loopS (α := Unit) [8, 7] (fun _ => [(8, .int .i64 0), (7, .int .i64 0)]) (fun b => h) (fun _ => True) (fun _ => 0) () ?_ rfl trivial Ty.mixed (by kernel_rfl) ?_
  · simp (disch := omega) only [go_sem, seval]
  intro _ _
  simp (disch := omega) only [go_sem, seval]
  refine AWP.keep [8] (aCode_ok Ty.mixed _ _ _ _ (by kernel_rfl) ?_)
  simp (disch := omega) only [go_sem, seval]
/-! ### Lists without others -/
end Go.Proofs.Ytelehpccfaedjaa
