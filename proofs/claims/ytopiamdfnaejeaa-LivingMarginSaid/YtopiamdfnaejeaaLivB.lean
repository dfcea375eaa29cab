/- The program's check of a gate and a list of people. No conditions. -/
import Derived.Test.YtopiamdfnaejeaaLivA
set_option linter.unusedSimpArgs false
set_option linter.unusedVariables false
namespace Go.Proofs.Ytopiamdfnaejeaa
open Go Go.Proofs Go.Abs

/-! ### Lists of one's own as arrays -/
/-- A list of one's own: nil, or an array with room behind it. -/
def OwnM (b : Nat) (j : AH) (T : TypeId) (v : AV) (xs : List AV) : Prop :=
  (v = .sl [] .full ∧ xs = []) ∨ ∃ q c pad, v = .ms (b + q) 0 xs.length c 1 ∧ j[q]? = some (.row (xs ++ pad) T) ∧ c = xs.length + pad.length ∧ ∀ a ∈ pad, a.isAgg = false
theorem OwnM.more {b : Nat} {j : AH} {T : TypeId} {v : AV} {xs : List AV} (h : OwnM b j T v xs) (k : AH) : OwnM b (j ++ k) T v xs := by
  rcases h with h | ⟨q, c, pad, h1, h2, h3⟩
  · exact .inl h
  · exact .inr ⟨q, c, pad, h1, by rw [List.getElem?_append_left (List.getElem?_eq_some_iff.1 h2).1]; exact h2, h3⟩
theorem flat_I (l : List Int) : flat (encI l) = encI l := by
  induction l with
  | nil => rfl
  | cons x l ih =>
    have : flat (.int .i64 x :: encI l) = .int .i64 x :: flat (encI l) := rfl
    rw [encI_cons, this, ih]
theorem splice_app {xs pad ys : List AV} (h : xs.length + ys.length ≤ xs.length + pad.length) : splice (xs ++ pad) (0 + xs.length * 1) ys = xs ++ ys ++ pad.drop ys.length := by
  rw [Nat.zero_add, Nat.mul_one]
  rcases ys with _ | ⟨y, _ | ⟨z, ys⟩⟩
  · simp [splice]
  · cases pad with
    | nil => exact absurd h (by simp)
    | cons p pad => simp [splice]
  · simp [splice]
theorem aApM_own {v x : AV} {xs ys : List AV} {h j : AH} {T : TypeId} {by_ : Nat} {z : List AV} {Q : AV → AH → Prop} (hv : OwnM h.length j T v xs) (hs : SrcIs x (h ++ j) ys) (hx : RowsOK 1 ys) (hf : flat ys = ys) (hne : ys ≠ [])
    (h63 : xs.length + ys.length ≤ 9223372036854775807) (hby : (xs.length + ys.length) * by_ ≤ 140737488355328) (H : ∀ v' j', OwnM h.length j' T v' (xs ++ ys) → j.length ≤ j'.length → Q v' (h ++ j')) : aApM (some (1, by_, z, T)) v x (h ++ j) Q := by
  refine ⟨ys, hs, hx, ?_⟩
  rcases hv with ⟨rfl, rfl⟩ | ⟨q, c, pad, rfl, h2, h3, h4⟩
  · refine ⟨by simpa using h63, by simpa using hby, fun e => absurd e hne, fun _ c hc => ?_⟩
    rw [hf, List.append_assoc]
    have := H (.ms (h ++ j).length 0 ys.length c 1) (j ++ [.row (ys ++ List.replicate ((c - ys.length) * 1) .top) T]) (.inr ⟨j.length, c, List.replicate (c - ys.length) .top, by simp, by simp, by simp; omega, fun a ha => by rw [List.eq_of_mem_replicate ha]; rfl⟩) (by simp)
    simpa using this
  · have hq := (List.getElem?_eq_some_iff.1 h2).1
    have hg : (h ++ j)[h.length + q]? = some (.row (xs ++ pad) T) := by rw [hget_add]; exact h2
    refine ⟨rfl, h63, hby, by omega, ?_⟩
    rw [hg]
    refine ⟨by simp; omega, fun hle => ?_, fun hlt c' hc' => ?_⟩
    · have := H (.ms (h.length + q) 0 (xs.length + ys.length) c 1) (j.set q (.row (xs ++ ys ++ pad.drop ys.length) T)) (.inr ⟨q, c, pad.drop ys.length, by simp, by simp [hq], by simp; omega, fun a ha => h4 a (List.mem_of_mem_drop ha)⟩) (by simp)
      rw [hset_add, hf]
      rw [show splice (xs ++ pad) (0 + xs.length * 1) ys = xs ++ ys ++ pad.drop ys.length from splice_app (by omega)]
      exact this
    · have := H (.ms (h ++ j).length 0 (xs.length + ys.length) c' 1) (j ++ [.row (xs ++ ys ++ List.replicate ((c' - (xs.length + ys.length)) * 1) .top) T]) (.inr ⟨j.length, c', List.replicate (c' - (xs.length + ys.length)) .top, by simp, by simp, by simp; omega, fun a ha => by rw [List.eq_of_mem_replicate ha]; rfl⟩) (by simp)
      rw [hf]
      simpa using this

/-- **The end of a function whose result may hold an array of its own**, a list from now on. -/
theorem ACalls.endM {P : Program} {Γ : Nat → Option (List AV)} {f : FuncId} {args : List AV} {h : AH} {R : AV → Prop} (H : ACalls P Γ f args h fun v h' => (∃ l, h' = h ++ l) ∧ ((RB h.length (loose v) ∧ R (loose v)) ∨ ∃ q cs T, h'[h.length + q]? = some (.row cs T) ∧ RB h.length (loose (fzV (h.length + q) cs v)) ∧ R (loose (fzV (h.length + q) cs v)))) :
    ACalls P Γ f args h fun v h' => h' = h ∧ R v := by
  refine ACalls.dropL ⟨H.1, fun G w vs hI hv => (H.2 G w vs hI hv).mono fun e w' hr => ?_⟩
  obtain ⟨v, G', av, h', k1, k2, k3, k4, ⟨l, rfl⟩, k5 | ⟨q, cs, T, e1, k5⟩⟩ := hr
  · exact ⟨v, G', av, _, k1, k2, k3, k4, ⟨l, rfl⟩, k5⟩
  · obtain ⟨b, vals, q1, q2, q3⟩ := k3.freeze e1 (Froze.set e1)
    exact ⟨v, _, _, _, k1, k2.trans q1, q2, q3 _ _ k4, ⟨l.set q .frozen, hset_add h l q .frozen⟩, k5⟩

theorem fzL_maps {α : Type} (f : α → AV) {i : Nat} {cs : List AV} (hf : ∀ a, fzV i cs (f a) = f a) (l : List α) : fzL i cs (l.map f) = l.map f := by
  rw [fzL_map, List.map_map]
  exact List.map_congr_left fun a _ => hf a
theorem fz_tuple (i : Nat) (cs l : List AV) : fzV i cs (.tuple l) = .tuple (fzL i cs l) := rfl
theorem fz_agg (i : Nat) (cs l : List AV) : fzV i cs (.agg l) = .agg (fzL i cs l) := rfl
theorem fz_sl (i : Nat) (cs l : List AV) (o : Abs.Own) : fzV i cs (.sl l o) = .sl (fzL i cs l) o := rfl
theorem fz_int (i : Nat) (cs : List AV) (k : IntKind) (n : Int) : fzV i cs (.int k n) = .int k n := rfl
theorem fz_bool (i : Nat) (cs : List AV) (b : Bool) : fzV i cs (.bool b) = .bool b := rfl
theorem fz_cons (i : Nat) (cs l : List AV) (a : AV) : fzL i cs (a :: l) = fzV i cs a :: fzL i cs l := rfl
theorem fz_nil (i : Nat) (cs : List AV) : fzL i cs [] = [] := rfl
theorem fz_G (i : Nat) (cs : List AV) : ∀ g : Gt, fzV i cs (encG g) = encG g
  | .mk p n l => by
    have : fzL i cs (l.map encG) = l.map encG := by
      rw [fzL_map, List.map_map]
      exact List.map_congr_left fun g hg => fz_G i cs g
    simp [encG_mk, fzV, fzL, this]
theorem fz_Gs (i : Nat) (cs : List AV) (l : List Gt) : fzL i cs (l.map encG) = l.map encG := fzL_maps _ (fz_G i cs) l
theorem fz_I (i : Nat) (cs : List AV) (l : List Int) : fzL i cs (encI l) = encI l := fzL_maps _ (fun _ => rfl) l
theorem fz_own (i c : Nat) (l : List Int) (pad : List AV) (hc : l.length ≤ c) (hp : ∀ a ∈ pad, a.isAgg = false) : fzV i (encI l ++ pad) (.ms i 0 l.length c 1) = .sl (encI l) .free := by
  rw [fzV, if_pos, List.drop_zero, rowsOf_one _ _ (by simp [encI_len]), List.take_append_of_le_length (by simp [encI_len]), ← encI_len l, List.take_length]
  refine ⟨rfl, ?_⟩
  simp only [fzOK, Bool.and_eq_true, decide_eq_true_eq, bne_iff_ne, List.all_eq_true, Bool.not_eq_true', List.length_append, encI_len]
  refine ⟨⟨⟨by omega, hc⟩, by decide⟩, fun a ha => ?_⟩
  rcases List.mem_append.1 ha with ha | ha
  · obtain ⟨x, _, rfl⟩ := List.mem_map.1 ha; rfl
  · exact hp a ha

/-! ### Entries of a set of people -/
theorem entsB_len (l : List Int) (i : Nat) : (entsB i l).length = l.length := by
  induction l generalizing i with
  | nil => rfl
  | cons a l ih => simp [entsB, ih]
theorem entsB_mem (l : List Int) (i : Nat) (e : Nat × AV × AV) (h : e ∈ entsB i l) : ∃ b, b < l.length ∧ e = (i + b, .int .i64 (l.getD b 0), .bool true) := by
  induction l generalizing i with
  | nil => simp [entsB] at h
  | cons a l ih =>
    rcases List.mem_cons.1 h with rfl | h
    · exact ⟨0, by simp, by simp⟩
    · obtain ⟨b, h1, h2⟩ := ih _ h
      exact ⟨b + 1, by simpa using h1, by rw [h2]; simp [Nat.add_assoc, Nat.add_comm 1]⟩
theorem entsB_at (l : List Int) (i b : Nat) (h : b < l.length) : (entsB i l).find? (·.1 == i + b) = some (i + b, .int .i64 (l.getD b 0), .bool true) ∧ (i + b, AV.int .i64 (l.getD b 0), AV.bool true) ∈ entsB i l := by
  induction l generalizing i b with
  | nil => simp at h
  | cons a l ih =>
    cases b with
    | zero => simp [entsB]
    | succ b =>
      obtain ⟨h1, h2⟩ := ih (i + 1) b (by simpa using h)
      have e : i + (b + 1) = i + 1 + b := by omega
      refine ⟨?_, ?_⟩
      · rw [e, entsB, List.find?_cons_of_neg (by simp; omega), h1]; rfl
      · rw [e]; simp [entsB] at h2 ⊢; exact .inr h2
/-- The numbers met so far. -/
def metF (ks : List Int) (seen : List Nat) : List Int := seen.map fun b => ks.getD b 0
theorem met_all {ks : List Int} {seen : List Nat} (h1 : seen.Nodup) (h2 : ∀ b ∈ seen, b < ks.length) (h3 : ∀ b, b < ks.length → b ∈ seen) : (metF ks seen).Perm ks := by
  have hp : seen.Perm (List.range ks.length) := by
    rw [List.perm_ext_iff_of_nodup h1 List.nodup_range]
    intro a
    rw [List.mem_range]
    exact ⟨h2 a, h3 a⟩
  refine (hp.map _).trans ?_
  have : (List.range ks.length).map (fun b => ks.getD b 0) = ks := by
    apply List.ext_getElem
    · simp
    · intro i h1 h2; simp at h1; simp [h1]
  rw [this]
theorem nodup_le : ∀ (a l : List Nat), a.Nodup → (∀ b ∈ a, b ∈ l) → a.length ≤ l.length
  | [], l, _, _ => by simp
  | x :: a, l, h, hm => by
    rw [List.nodup_cons] at h
    have hx := hm x (by simp)
    have := nodup_le a (l.erase x) h.2 fun b hb => (List.mem_erase_of_ne (fun e => by subst e; exact h.1 hb)).2 (hm b (by simp [hb]))
    rw [List.length_erase_of_mem hx] at this
    have := List.length_pos_of_mem hx
    simp; omega
theorem met_len {ks : List Int} {seen : List Nat} (h1 : seen.Nodup) (h2 : ∀ b ∈ seen, b < ks.length) : seen.length ≤ ks.length := by
  have := nodup_le seen (List.range ks.length) h1 (fun b hb => List.mem_range.2 (h2 b hb))
  simpa using this
end Go.Proofs.Ytopiamdfnaejeaa
