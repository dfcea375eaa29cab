/- Texts joined: AbsK, AbsL, AbsM, AbsZc. No conditions. -/
import Derived.Test.YtjdhgaflenhljaaGreatDoorMrC
/- A function's code, reckoned as a whole: branches, blocks, regions in the order of the text and regions that draw their order. It says nothing of any program; no conditions. -/
set_option linter.unusedSimpArgs false
set_option linter.unusedVariables false
namespace Go.Abs
open Go Go.RowKit

section
variable {P : Program} {Γ : Nat → Option (List AV)} {G : Gh} {h : AH} {w : World} {N : Nat} {σ σ' : Tm} {Q : Exit → Tm → AH → Prop}

/-! ### What an operation looks at -/
def opT (op : Op) : List Tmp := op.operands.toList.filterMap fun | .tmp t => some t | _ => none

theorem mem_opT {op : Op} {t : Tmp} (h : Operand.tmp t ∈ op.operands.toList) : t ∈ opT op := List.mem_filterMap.2 ⟨.tmp t, h, rfl⟩

theorem ev_same {x : Operand} (H : ∀ t, x = .tmp t → lk σ t = lk σ' t) : ev Γ σ x = ev Γ σ' x := by
  cases x with
  | tmp t => exact H t rfl
  | const _ => rfl
  | global _ => rfl
  | func _ => rfl

theorem evs_same {xs : List Operand} (H : ∀ t, Operand.tmp t ∈ xs → lk σ t = lk σ' t) : xs.map (ev Γ σ) = xs.map (ev Γ σ') :=
  List.map_congr_left fun x hx => ev_same fun t e => H t (e ▸ hx)

theorem evo_same {x : Option Operand} (H : ∀ t, x = some (.tmp t) → lk σ t = lk σ' t) : x.map (ev Γ σ) = x.map (ev Γ σ') := by
  cases x with
  | none => rfl
  | some x => simp only [Option.map_some]; rw [ev_same fun t e => H t (by rw [e])]

theorem evParts_same {ps : Array (Nat × Operand)} (H : ∀ t, Operand.tmp t ∈ ps.toList.map (·.2) → lk σ t = lk σ' t) : evParts Γ σ ps = evParts Γ σ' ps := by
  unfold evParts
  refine List.map_congr_left fun p hp => ?_
  obtain ⟨i, x⟩ := p
  simp only
  rw [ev_same fun t e => H t (List.mem_map.2 ⟨(i, x), hp, e⟩)]

theorem aop_same {op : Op} {K : AV → AH → Prop} (H : ∀ t ∈ opT op, lk σ t = lk σ' t) : aop P Γ σ h op K = aop P Γ σ' h op K := by
  have H' : ∀ t, Operand.tmp t ∈ op.operands.toList → lk σ t = lk σ' t := fun t ht => H t (mem_opT ht)
  cases op <;> try rfl
  case makeFunc fn first captured =>
    cases fn <;> try rfl
    simp only [aop]
    rw [evs_same fun t ht => H' t (by simp [Op.operands]; exact .inl (by simpa using ht)), evs_same (xs := captured.toList) fun t ht => H' t (by simp [Op.operands]; exact .inr (by simpa using ht))]
  case makeMap t r => cases r <;> rfl
  case call c =>
    simp only [aop]
    cases hc : c.callee <;> try rfl
    simp only
    rw [evs_same fun t ht => H' t (by simp [Op.operands, Call.operands, hc]; simpa using ht)]
  case slice t x lo hi mx =>
    simp only [aop]
    rw [ev_same fun t e => H' t (by simp [Op.operands, e]), evo_same (x := lo) fun t e => H' t (by simp [Op.operands, e]), evo_same (x := hi) fun t e => H' t (by simp [Op.operands, e]), evo_same (x := mx) fun t e => H' t (by simp [Op.operands, e])]
  case build t ps => simp only [aop]; rw [evParts_same fun t ht => H' t (by simpa [Op.operands] using ht)]
  case buildSlice t n ps => simp only [aop]; rw [evParts_same fun t ht => H' t (by simpa [Op.operands] using ht)]
  case pick c a b => simp only [aop]; rw [ev_same (x := c) fun t e => H' t (by simp [Op.operands, e]), ev_same (x := a) fun t e => H' t (by simp [Op.operands, e]), ev_same (x := b) fun t e => H' t (by simp [Op.operands, e])]
  all_goals
    simp only [aop]
    repeat rw [ev_same (σ := σ) (σ' := σ') fun t e => H' t (by simp [Op.operands, e])]


/-! ### An operation that makes no call leaves one thing alone -/
theorem aLd_det {t : TypeId} {cs : List AV} {K : AV → Prop} (H : aLd P t cs K) : ∃ v, K v ∧ ∀ K' : AV → Prop, K' v → aLd P t cs K' := by
  unfold aLd at *
  split at H
  · exact H.elim
  · rename_i d hd
    cases ha : aggD d with
    | true =>
      rw [ha] at H
      simp only [if_true] at H ⊢
      split at H
      · exact ⟨_, H.2, fun K' h' => ⟨H.1, h'⟩⟩
      · exact H.elim
    | false =>
      rw [ha] at H
      simp only [Bool.false_eq_true, if_false] at H ⊢
      split at H
      · exact ⟨_, H, fun K' h' => h'⟩
      · exact H.elim

theorem aLoad_det {t : TypeId} {a : AV} {K : AV → AH → Prop} (H : aLoad P t a h K) : ∃ v h', K v h' ∧ ∀ K' : AV → AH → Prop, K' v h' → aLoad P t a h K' := by
  unfold aLoad at *
  split at H
  · split at H
    · rename_i hh
      obtain ⟨v, h1, h2⟩ := aLd_det H
      exact ⟨v, h, h1, fun K' hk => h2 _ hk⟩
    · exact H.elim
  · obtain ⟨v, h1, h2⟩ := aLd_det H
    exact ⟨v, h, h1, fun K' hk => h2 _ hk⟩
  · exact H.elim

theorem aStore_det {t : TypeId} {a x : AV} {K : AH → Prop} (H : aStore P t a x h K) : ∃ h', K h' ∧ ∀ K' : AH → Prop, K' h' → aStore P t a x h K' := by
  unfold aStore at *
  split at H
  · split at H
    · rename_i hh
      exact ⟨_, H.2.2.2, fun K' hk => ⟨H.1, H.2.1, H.2.2.1, hk⟩⟩
    · exact H.elim
  · exact H.elim

theorem aAlloc_det {t : TypeId} {K : AV → AH → Prop} (H : aAlloc P t h K) : ∃ v h', K v h' ∧ ∀ K' : AV → AH → Prop, K' v h' → aAlloc P t h K' := by
  unfold aAlloc at *
  split at H
  · exact ⟨_, _, H, fun K' hk => hk⟩
  · exact H.elim

theorem aNil_det {x : AV} {K : AV → Prop} (H : aNil x K) : ∃ v, K v ∧ ∀ K' : AV → Prop, K' v → aNil x K' := by
  unfold aNil at *
  split at H <;> first | exact H.elim | exact ⟨_, H, fun K' hk => hk⟩

theorem aInt_det {op : BinOp} {k k' : IntKind} {a b : Int} {K : AV → Prop} (H : aInt op k a k' b K) : ∃ v, K v ∧ ∀ K' : AV → Prop, K' v → aInt op k a k' b K' := by
  cases op <;> simp only [aInt] at * <;> first | exact ⟨_, H.2.2, fun K' hk => ⟨H.1, H.2.1, hk⟩⟩ | exact ⟨_, H.2, fun K' hk => ⟨H.1, hk⟩⟩

theorem aStr_det {op : BinOp} {a b : ByteArray} {K : AV → Prop} (H : aStr op a b K) : ∃ v, K v ∧ ∀ K' : AV → Prop, K' v → aStr op a b K' := by
  cases op <;> simp only [aStr] at * <;> first | exact H.elim | exact ⟨_, H.2, fun K' hk => ⟨H.1, hk⟩⟩ | exact ⟨_, H, fun K' hk => hk⟩

theorem aBin_det {op : BinOp} {t : TypeId} {x y : AV} {K : AV → Prop} (H : aBin P op t x y K) : ∃ v, K v ∧ ∀ K' : AV → Prop, K' v → aBin P op t x y K' := by
  unfold aBin at *
  split at H
  · exact aInt_det H
  · exact aStr_det H
  · obtain ⟨h1, H⟩ := H
    cases op <;> simp only at * <;> first | exact H.elim | exact ⟨_, H, fun K' hk => ⟨h1, hk⟩⟩
  · exact H.elim

theorem aUn_det {op : UnOp} {x : AV} {K : AV → Prop} (H : aUn op x K) : ∃ v, K v ∧ ∀ K' : AV → Prop, K' v → aUn op x K' := by
  unfold aUn at *
  split at H <;> first | exact H.elim | exact ⟨_, H, fun K' hk => hk⟩

theorem aConv_det {s t : TypeId} {x : AV} {K : AV → Prop} (H : aConv P s t x K) : ∃ v, K v ∧ ∀ K' : AV → Prop, K' v → aConv P s t x K' := by
  unfold aConv at *
  split at H
  · rename_i h1 h2; exact ⟨_, H, fun K' hk => hk⟩
  · rename_i h1 h2; exact ⟨_, H, fun K' hk => hk⟩
  · exact H.elim

theorem aExtract_det {x : AV} {i : Nat} {K : AV → Prop} (H : aExtract x i K) : ∃ v, K v ∧ ∀ K' : AV → Prop, K' v → aExtract x i K' := by
  unfold aExtract at *
  split at H
  · split at H
    · rename_i h1; exact ⟨_, H, fun K' hk => hk⟩
    · exact H.elim
  · exact H.elim

theorem aFill_det {pl : Nat → Option (Nat × Nat)} : ∀ (parts : List (Nat × AV)) (cells : List AV) {K : List AV → Prop}, aFill pl cells parts K → ∃ v, K v ∧ ∀ K' : List AV → Prop, K' v → aFill pl cells parts K' := by
  intro parts
  induction parts with
  | nil => intro cells K H; exact ⟨_, H, fun K' hk => hk⟩
  | cons p r ih =>
    intro cells K H
    obtain ⟨i, x⟩ := p
    rw [aFill] at H
    simp only [aFill]
    split at H
    · exact H.elim
    · rename_i h1
      obtain ⟨a, b, c, H⟩ := H
      obtain ⟨v, k1, k2⟩ := ih _ H
      exact ⟨v, k1, fun K' hk => ⟨a, b, c, k2 K' hk⟩⟩

theorem aBuild_det {t : TypeId} {ps : List (Nat × AV)} {K : AV → Prop} (H : aBuild P t ps K) : ∃ v, K v ∧ ∀ K' : AV → Prop, K' v → aBuild P t ps K' := by
  unfold aBuild at *
  split at H
  · rename_i h1 h2
    split at H
    · rename_i h3
      obtain ⟨v, k1, k2⟩ := aFill_det _ _ H
      exact ⟨_, k1, fun K' hk => k2 _ hk⟩
    · exact H.elim
  · rename_i h1 h2
    split at H
    · rename_i h3
      obtain ⟨v, k1, k2⟩ := aFill_det _ _ H
      exact ⟨_, k1, fun K' hk => k2 _ hk⟩
    · exact H.elim
  · exact H.elim

theorem aBuildSlice_det {t : TypeId} {n : Nat} {ps : List (Nat × AV)} {K : AV → Prop} (H : aBuildSlice P t n ps K) : ∃ v, K v ∧ ∀ K' : AV → Prop, K' v → aBuildSlice P t n ps K' := by
  unfold aBuildSlice at *
  split at H
  · rename_i h1
    split at H
    · rename_i h2 h3
      obtain ⟨a1, a2, a3, a4, a5, H⟩ := H
      exact ⟨_, H, fun K' hk => ⟨a1, a2, a3, a4, a5, hk⟩⟩
    · exact H.elim
  · exact H.elim

theorem aAppend_det {t u : TypeId} {s x : AV} {K : AV → AH → Prop} (H : aAppend P t u s x h K) : ∃ v h', K v h' ∧ ∀ K' : AV → AH → Prop, K' v h' → aAppend P t u s x h K' := by
  unfold aAppend at *
  split at H
  · exact H.elim
  · rename_i h1 h2 h3
    split at H
    · rename_i h4 h5 h6
      obtain ⟨a1, a2, xs, a3, a4, a5, a6, a7, H⟩ := H
      split at H
      · exact ⟨_, _, H.2, fun K' hk => ⟨a1, a2, xs, a3, a4, a5, a6, a7, H.1, hk⟩⟩
      · exact ⟨_, _, H, fun K' hk => ⟨a1, a2, xs, a3, a4, a5, a6, a7, hk⟩⟩
      · split at H
        · rename_i h8
          exact ⟨_, _, H.2, fun K' hk => ⟨a1, a2, xs, a3, a4, a5, a6, a7, H.1, hk⟩⟩
        · exact H.elim
    · exact H.elim
  · exact H.elim

theorem aSlice_det {t : TypeId} {x : AV} {lo hi mx : Option AV} {K : AV → Prop} (H : aSlice P t x lo hi mx K) : ∃ v, K v ∧ ∀ K' : AV → Prop, K' v → aSlice P t x lo hi mx K' := by
  unfold aSlice at *
  split at H
  · rename_i h1
    obtain ⟨a0, H⟩ := H
    split at H
    · rename_i h2 h3
      obtain ⟨a1, a2, a3, H⟩ := H
      exact ⟨_, H, fun K' hk => ⟨a0, a1, a2, a3, hk⟩⟩
    · exact H.elim
  · rename_i h1
    split at H
    · rename_i h2 h3 h4 h5
      obtain ⟨a1, a2, a3, a4, a5, a6, H⟩ := H
      exact ⟨_, H, fun K' hk => ⟨a1, a2, a3, a4, a5, a6, hk⟩⟩
    · exact H.elim
  · rename_i h1
    split at H
    · rename_i h2 h3 h4 h5
      obtain ⟨a1, a2, a3, a4, a5, a6, H⟩ := H
      exact ⟨_, H, fun K' hk => ⟨a1, a2, a3, a4, a5, a6, hk⟩⟩
    · exact H.elim
  · exact H.elim

theorem aFieldAddr_det {s : TypeId} {a : AV} {f : Nat} {K : AV → Prop} (H : aFieldAddr P s a f K) : ∃ v, K v ∧ ∀ K' : AV → Prop, K' v → aFieldAddr P s a f K' := by
  unfold aFieldAddr at *
  split at H
  · rename_i h1
    split at H
    · rename_i h2
      obtain ⟨a1, H⟩ := H
      split at H <;> first | exact H.elim | exact ⟨_, H, fun K' hk => ⟨a1, hk⟩⟩
    · exact H.elim
  · exact H.elim

theorem aField_det {t : TypeId} {x : AV} {f : Nat} {K : AV → Prop} (H : aField P t x f K) : ∃ v, K v ∧ ∀ K' : AV → Prop, K' v → aField P t x f K' := by
  unfold aField at *
  split at H
  · rename_i h1
    split at H
    · rename_i h2
      exact aLd_det H
    · exact H.elim
  · exact H.elim

theorem aIndexAddr_det {t : TypeId} {x i : AV} {K : AV → Prop} (H : aIndexAddr P t x i K) : ∃ v, K v ∧ ∀ K' : AV → Prop, K' v → aIndexAddr P t x i K' := by
  unfold aIndexAddr at *
  split at H
  · split at H
    · rename_i h1
      split at H
      · rename_i h2
        split at H
        · obtain ⟨a1, a2, r, a3, a4, H⟩ := H
          exact ⟨_, H, fun K' hk => ⟨a1, a2, r, a3, a4, hk⟩⟩
        · exact ⟨_, H.2.2, fun K' hk => ⟨H.1, H.2.1, hk⟩⟩
        · exact H.elim
      · exact H.elim
    · rename_i h1
      split at H
      · rename_i h2
        obtain ⟨a1, a2, H⟩ := H
        split at H <;> first | exact H.elim | exact ⟨_, H, fun K' hk => ⟨a1, a2, hk⟩⟩
      · exact H.elim
    · exact H.elim
  · exact H.elim

theorem aLkF_det {ok : Bool} {z : AV} {r : Option (Option Nat)} {ents : List (Nat × AV × AV)} {K : AV → Prop} (H : aLkF ok z r ents K) : ∃ v, K v ∧ ∀ K' : AV → Prop, K' v → aLkF ok z r ents K' := by
  unfold aLkF at *
  split at H
  · exact ⟨_, H, fun K' hk => hk⟩
  · split at H
    · exact ⟨_, H, fun K' hk => hk⟩
    · exact H.elim
  · exact H.elim
theorem aLkM_det {ok : Bool} {z m k : AV} {K : AV → Prop} (H : aLkM z m k ok h K) : ∃ v, K v ∧ ∀ K' : AV → Prop, K' v → aLkM z m k ok h K' := by
  unfold aLkM at *
  split at H
  · exact ⟨_, H, fun K' hk => hk⟩
  · unfold aLkO at *
    split at H
    · exact aLkF_det H
    · exact H.elim
  · exact H.elim
theorem aLookup_det {t : TypeId} {m k : AV} {ok : Bool} {K : AV → Prop} (H : aLookup P t m k ok h K) : ∃ v, K v ∧ ∀ K' : AV → Prop, K' v → aLookup P t m k ok h K' := by
  unfold aLookup at *
  split at H
  · split at H
    · obtain ⟨a1, H⟩ := H
      obtain ⟨v, k1, k2⟩ := aLkM_det H
      exact ⟨v, k1, fun K' hk => ⟨a1, k2 K' hk⟩⟩
    · exact H.elim
  · exact H.elim

theorem aMapUpdate_det {t : TypeId} {m k x : AV} {K : AH → Prop} (H : aMapUpdate P t m k x h K) : ∃ h', K h' ∧ ∀ K' : AH → Prop, K' h' → aMapUpdate P t m k x h K' := by
  unfold aMapUpdate at *
  split at H
  · split at H
    · obtain ⟨a1, H⟩ := H
      split at H
      · split at H
        · split at H
          · exact ⟨_, H, fun K' hk => ⟨a1, hk⟩⟩
          · exact H.elim
        · exact H.elim
      · exact H.elim
    · exact H.elim
  · exact H.elim

theorem aLk2_det {d : Option (List (Nat × CK) × AV)} {t : TypeId} {m k : AV} {ok : Bool} {K : AV → Prop} (H : aLk2 d P t m k ok h K) : ∃ v, K v ∧ ∀ K' : AV → Prop, K' v → aLk2 d P t m k ok h K' := by
  unfold aLk2 at *
  split at H
  · unfold aLkMS at *
    split at H
    · obtain ⟨a1, H⟩ := H
      unfold aLkOS at *
      split at H
      · obtain ⟨v, k1, k2⟩ := aLkF_det H
        exact ⟨v, k1, fun K' hk => ⟨a1, k2 K' hk⟩⟩
      · exact H.elim
    · exact H.elim
  · exact aLookup_det H
theorem aUp2_det {d : Option (List (Nat × CK) × AV)} {t : TypeId} {m k x : AV} {K : AH → Prop} (H : aUp2 d P t m k x h K) : ∃ h', K h' ∧ ∀ K' : AH → Prop, K' h' → aUp2 d P t m k x h K' := by
  unfold aUp2 at *
  split at H
  · unfold aUpM at *
    split at H
    · obtain ⟨a1, H⟩ := H
      split at H
      · split at H
        · exact ⟨_, H, fun K' hk => ⟨a1, hk⟩⟩
        · exact H.elim
      · exact H.elim
    · exact H.elim
  · exact aMapUpdate_det H

theorem aMakeSlice_det {t : TypeId} {l c : AV} {K : AV → AH → Prop} (H : aMakeSlice P t l c h K) : ∃ v h', K v h' ∧ ∀ K' : AV → AH → Prop, K' v h' → aMakeSlice P t l c h K' := by
  unfold aMakeSlice at *
  split at H
  · split at H
    · split at H
      · obtain ⟨a1, a2, a3, a4, a5, a6, H⟩ := H
        exact ⟨_, _, H, fun K' hk => ⟨a1, a2, a3, a4, a5, a6, hk⟩⟩
      · exact H.elim
    · exact H.elim
  · exact H.elim
theorem aRange_det {t : TypeId} {x : AV} {K : AV → AH → Prop} (H : aRange P t x h K) : ∃ v h', K v h' ∧ ∀ K' : AV → AH → Prop, K' v h' → aRange P t x h K' := by
  unfold aRange at *
  split at H
  · exact ⟨_, _, H, fun K' hk => hk⟩
  · split at H
    · exact ⟨_, _, H, fun K' hk => hk⟩
    · exact H.elim
  · exact H.elim
theorem aEntry_det {x : AV} {K : AV → Prop} (H : aEntry x h K) : ∃ v, K v ∧ ∀ K' : AV → Prop, K' v → aEntry x h K' := by
  unfold aEntry at *
  split at H
  · split at H
    · split at H
      · obtain ⟨a1, H⟩ := H
        split at H
        · exact ⟨_, H, fun K' hk => ⟨a1, hk⟩⟩
        · exact H.elim
      · exact H.elim
    · exact H.elim
  · exact H.elim
theorem aIndex_det {t : TypeId} {x i : AV} {K : AV → Prop} (H : aIndex P t x i K) : ∃ v, K v ∧ ∀ K' : AV → Prop, K' v → aIndex P t x i K' := by
  unfold aIndex at *
  split at H
  · obtain ⟨a1, b, a2, H⟩ := H
    exact ⟨_, H, fun K' hk => ⟨a1, b, a2, hk⟩⟩
  · obtain ⟨a1, a2, H⟩ := H
    split at H
    · obtain ⟨v, hv, hk⟩ := aLd_det H
      exact ⟨v, hv, fun K' h => ⟨a1, a2, hk K' h⟩⟩
    · exact H.elim
  · exact H.elim
theorem aClear_det {t : TypeId} {x : AV} {K : AV → AH → Prop} (H : aClear P t x h K) : ∃ v h', K v h' ∧ ∀ K' : AV → AH → Prop, K' v h' → aClear P t x h K' := by
  unfold aClear at *
  split at H
  · exact ⟨_, _, H, fun K' hk => hk⟩
  · split at H
    · obtain ⟨a1, a2, a3, a4, a5, H⟩ := H
      exact ⟨_, _, H, fun K' hk => ⟨a1, a2, a3, a4, a5, hk⟩⟩
    · exact H.elim
  · exact H.elim
theorem aLen_det {t : TypeId} {x : AV} {K : AV → Prop} (H : aLen P t x h K) : ∃ v, K v ∧ ∀ K' : AV → Prop, K' v → aLen P t x h K' := by
  unfold aLen at *
  split at H
  · rename_i h1; exact ⟨_, H, fun K' hk => hk⟩
  · rename_i h1; exact ⟨_, H, fun K' hk => hk⟩
  · rename_i h1; exact ⟨_, H, fun K' hk => hk⟩
  · rename_i h1; exact ⟨_, H, fun K' hk => hk⟩
  · rename_i h1; exact ⟨_, H, fun K' hk => hk⟩
  · rename_i h1
    split at H
    · rename_i h2; exact ⟨_, H, fun K' hk => hk⟩
    · exact H.elim
  · exact H.elim

theorem aBuiltin_det {b : Builtin} {ts : List TypeId} {xs : List AV} {K : AV → AH → Prop} (H : aBuiltin P b ts xs h K) : ∃ v h', K v h' ∧ ∀ K' : AV → AH → Prop, K' v h' → aBuiltin P b ts xs h K' := by
  unfold aBuiltin at *
  split at H
  · obtain ⟨v, k1, k2⟩ := aLen_det H
    exact ⟨v, h, k1, fun K' hk => k2 _ hk⟩
  · exact aAppend_det H
  · obtain ⟨v, k1, k2⟩ := aMin_det H
    exact ⟨v, h, k1, fun K' hk => k2 _ hk⟩
  · obtain ⟨v, k1, k2⟩ := aMax_det H
    exact ⟨v, h, k1, fun K' hk => k2 _ hk⟩
  · exact aClear_det H
  · exact H.elim

theorem det_lift {F : (AV → Prop) → Prop} (hF : ∀ K : AV → Prop, F K → ∃ v, K v ∧ ∀ K' : AV → Prop, K' v → F K') {K : AV → AH → Prop} (H : F fun v => K v h) :
    ∃ v h', K v h' ∧ ∀ K' : AV → AH → Prop, K' v h' → F fun v => K' v h := by
  obtain ⟨v, k1, k2⟩ := hF _ H
  exact ⟨v, h, k1, fun K' hk => k2 _ hk⟩

theorem aop_det {op : Op} {K : AV → AH → Prop} (H : aop P Γ σ h op K) : ∃ v h', K v h' ∧ ∀ K' : AV → AH → Prop, K' v h' → aop P Γ σ h op K' := by
  unfold aop at *
  split at H
  · exact ⟨_, _, H, fun _ hk => hk⟩
  · exact ⟨_, _, H, fun _ hk => hk⟩
  · split at H
    · rename_i h1; exact ⟨_, _, H, fun _ hk => hk⟩
    · exact H.elim
  · exact aAlloc_det H
  · exact ⟨_, _, H.2, fun _ hk => ⟨H.1, hk⟩⟩
  · exact det_lift (fun K H => aBuild_det H) H
  · exact det_lift (fun K H => aBuildSlice_det H) H
  · exact aLoad_det H
  · obtain ⟨h', k1, k2⟩ := aStore_det H
    exact ⟨_, h', k1, fun K' hk => k2 _ hk⟩
  · exact det_lift (fun K H => aNil_det H) H
  · exact det_lift (fun K H => aBin2_det aBin_det H) H
  · exact det_lift (fun K H => aUn_det H) H
  · exact det_lift (fun K H => aConv2_det aConv_det H) H
  · exact ⟨_, _, H, fun _ hk => hk⟩
  · exact ⟨_, _, H, fun _ hk => hk⟩
  · exact aMakeSlice_det H
  · exact aRange_det H
  · exact det_lift (fun K H => aEntry_det H) H
  · exact det_lift (fun K H => aIndex_det H) H
  · exact det_lift (fun K H => aSlice2_det aSlice_det H) H
  · exact det_lift (fun K H => aFieldAddr_det H) H
  · exact det_lift (fun K H => aField_det H) H
  · exact det_lift (fun K H => aIndexAddr_det H) H
  · exact det_lift (fun K H => aLk2_det H) H
  · exact det_lift (fun K H => aExtract_det H) H
  · exact det_lift (fun K H => aMkI_det H) H
  · exact det_lift (fun K H => aTyA_det H) H
  · obtain ⟨h', k1, k2⟩ := aUp2_det H
    exact ⟨_, h', k1, fun K' hk => k2 _ hk⟩
  · obtain ⟨h', k1, k2⟩ := aUp2_det H
    exact ⟨_, h', k1, fun K' hk => k2 _ hk⟩
  · split at H
    · rename_i h1; exact aBuiltin_det H
    · exact H.elim
  · exact H.elim

theorem aOper0_same {o : Oper} {K : AV → AH → Prop} (H : ∀ t ∈ opT o.op, lk σ t = lk σ' t) (h1 : aOper0 P Γ o (fun v _ h => K v h) σ h) : aOper0 P Γ o (fun v _ h => K v h) σ' h := by
  unfold aOper0 at *
  split at h1
  · rename_i c hc
    have H' : ∀ t, Operand.tmp t ∈ c.operands.toList → lk σ t = lk σ' t := fun t ht => H t (by rw [hc]; exact mem_opT ht)
    split at h1
    · rename_i f hf
      have e1 : ev Γ σ f = ev Γ σ' f := ev_same fun t e => H' t (by simp [Call.operands, hf, e])
      have e2 : c.args.toList.map (ev Γ σ) = c.args.toList.map (ev Γ σ') := evs_same fun t ht => H' t (by simp [Call.operands, hf]; exact .inr (by simpa using ht))
      rw [← e1, ← e2]
      split at h1
      · exact h1.mono fun _ _ h => h
      · exact h1.mono fun _ _ h => h
      · exact h1
    · rw [← aop_same H]; exact h1
  · rw [← aop_same H]; exact h1

/-! ### Regions that draw their order: nothing of one's own is touched there -/
def aCallD (P : Program) (Γ : Nat → Option (List AV)) (f : AV) (args : List AV) (h : AH) (K : AV → Prop) : Prop :=
  match f with
  | .func g first cap => ∃ v, (∀ l, ACalls P Γ g (first ++ args ++ cap) (h ++ l) (fun v' h' => h' = h ++ l ∧ v' = v)) ∧ K v
  | _ => False

/-- Operations that turn the heap. -/
def wr : Op → Bool
  | .store .. | .mapUpdate .. | .insert .. | .alloc _ | .box .. | .makeMap .. | .makeSlice .. | .range .. => true
  | .call c => (match c.callee with
    | .builtin .append => true
    | .builtin .clear => true
    | _ => false)
  | _ => false
/-- Operations that do not look at the heap. -/
def ins : Op → Bool
  | .move _ | .assign _ | .pick .. | .build .. | .buildSlice .. | .nilCheck _ | .binOp .. | .unOp .. | .convert .. | .makeFunc .. | .slice .. | .fieldAddr .. | .field .. | .indexAddr .. | .extract .. | .index .. | .makeInterface .. | .typeAssert .. => true
  | _ => false

/-- Calls of functions. -/
def cal : Op → Bool
  | .call c => (match c.callee with
    | .value _ => true
    | _ => false)
  | _ => false
/-- Operations that make a cell. -/
def al : Op → Bool
  | .alloc _ | .box .. => true
  | _ => false

def conB (b : Bool) (K : AV → Tm → AH → Prop) (σ : Tm) (h : AH) (v : AV) (h' : AH) : Prop := if b then K v σ h' else h' = h ∧ K v σ h

def aOperD (P : Program) (Γ : Nat → Option (List AV)) (o : Oper) (K : AV → Tm → AH → Prop) (σ : Tm) (h : AH) : Prop :=
  match o.op with
  | .call c => (match c.callee with
    | .value f => aCallD P Γ (ev Γ σ f) (c.args.toList.map (ev Γ σ)) h fun v => K v σ h
    | _ => aop P Γ σ h o.op (conB (wr o.op) K σ h))
  | op => aop P Γ σ h op (conB (wr op) K σ h)

def aDets (P : Program) (Γ : Nat → Option (List AV)) (ops : List Oper) (K : Tm → AH → Prop) : List Oper → Tm → AH → Prop
  | [], σ, h => K σ h
  | o :: rest, σ, h =>
    match o.guard with
    | none => aOperD P Γ o (fun v σ h => aDets P Γ ops K rest (put o.dst v σ) h) σ h
    | some (j, want) => aDst (dstAt ops j) fun t => aBoolG (lk σ t) want (aOperD P Γ o (fun v σ h => aDets P Γ ops K rest (put o.dst v σ) h) ((t, .bool want) :: σ) h)
        (aDets P Γ ops K rest (put o.dst (.tuple []) ((t, .bool (!want)) :: σ)) h) (aDets P Γ ops K rest (put o.dst (.tuple []) σ) h)

def DetV (P : Program) (Γ : Nat → Option (List AV)) (o : Oper) (σ : Tm) (h : AH) (v : AV) (h2 : AH) : Prop := aOper0 P Γ o (fun v' _ h' => v' = v ∧ h' = h2) σ h

theorem conB_det {b : Bool} {K : AV → Tm → AH → Prop} {v : AV} {h' : AH} (H : conB b K σ h v h') : K v σ h' ∧ (b = false → h' = h) := by
  cases b with
  | true => exact ⟨H, fun e => by cases e⟩
  | false => obtain ⟨rfl, k⟩ := H; exact ⟨k, fun _ => rfl⟩

theorem aOperD_det {o : Oper} {K : AV → Tm → AH → Prop} (H : aOperD P Γ o K σ h) : ∃ v h', K v σ h' ∧ DetV P Γ o σ h v h' ∧ (wr o.op = false → h' = h) ∧ (cal o.op = true → ∀ l, DetV P Γ o σ (h ++ l) v (h ++ l)) := by
  unfold aOperD at H
  split at H
  · rename_i c hc
    split at H
    · rename_i f hf
      unfold aCallD at H
      split at H
      · rename_i g first cap hg
        obtain ⟨v, h1, h2⟩ := H
        have key : ∀ l, DetV P Γ o σ (h ++ l) v (h ++ l) := fun l => by
          simp only [DetV, aOper0, hc, hf, hg]
          exact (h1 l).mono fun v' h' e => ⟨e.2, e.1⟩
        refine ⟨v, h, h2, ?_, fun _ => rfl, fun _ => key⟩
        have := key []
        rwa [List.append_nil] at this
      · exact H.elim
    · rename_i hf
      obtain ⟨v, h', k1, k2⟩ := aop_det H
      obtain ⟨k1, k3⟩ := conB_det k1
      refine ⟨v, h', k1, ?_, k3, fun hcal => by
        exfalso
        simp only [hc, cal] at hcal
        cases hcal⟩
      have := k2 (fun v' h'' => v' = v ∧ h'' = h') ⟨rfl, rfl⟩
      unfold DetV aOper0
      simp only [hc] at this ⊢
      cases hcc : c.callee with
      | value f => exact absurd hcc (hf f)
      | _ => exact this
  · rename_i hc
    obtain ⟨v, h', k1, k2⟩ := aop_det H
    obtain ⟨k1, k3⟩ := conB_det k1
    refine ⟨v, h', k1, ?_, k3, fun hcal => by
      exfalso
      unfold cal at hcal
      split at hcal
      · rename_i c hcc; exact hc c hcc
      · cases hcal⟩
    have := k2 (fun v' h'' => v' = v ∧ h'' = h') ⟨rfl, rfl⟩
    unfold DetV aOper0
    cases hop : o.op with
    | call c => exact absurd hop (hc c)
    | _ => rw [hop] at this; exact this

theorem DetV.same {o : Oper} {v : AV} {h' : AH} (H : ∀ t ∈ opT o.op, lk σ t = lk σ' t) (h1 : DetV P Γ o σ h v h') : DetV P Γ o σ' h v h' := aOper0_same (K := fun v' h'' => v' = v ∧ h'' = h') H h1

theorem ins_lift {F : (AV → Prop) → Prop} (hF : ∀ K : AV → Prop, F K → ∃ v, K v ∧ ∀ K' : AV → Prop, K' v → F K') {v : AV} {h h' : AH} (H : F fun v' => v' = v ∧ h = h') :
    h' = h ∧ ∀ h2 : AH, F fun v' => v' = v ∧ h2 = h2 := by
  obtain ⟨v0, ⟨rfl, rfl⟩, k⟩ := hF _ H
  exact ⟨rfl, fun h2 => k _ ⟨rfl, rfl⟩⟩

theorem aop_ins {op : Op} {v : AV} {h' : AH} (hi : ins op = true) (H : aop P Γ σ h op fun v' h'' => v' = v ∧ h'' = h') : h' = h ∧ ∀ h2, aop P Γ σ h2 op fun v' h'' => v' = v ∧ h'' = h2 := by
  unfold aop at *
  split at H <;> first
    | (simp [ins] at hi; done)
    | (obtain ⟨rfl, rfl⟩ := H; exact ⟨rfl, fun _ => ⟨rfl, rfl⟩⟩)
    | exact ins_lift (fun K H => aBuild_det H) H
    | exact ins_lift (fun K H => aBuildSlice_det H) H
    | exact ins_lift (fun K H => aNil_det H) H
    | exact ins_lift (fun K H => aBin2_det aBin_det H) H
    | exact ins_lift (fun K H => aUn_det H) H
    | exact ins_lift (fun K H => aConv2_det aConv_det H) H
    | exact ins_lift (fun K H => aSlice2_det aSlice_det H) H
    | exact ins_lift (fun K H => aFieldAddr_det H) H
    | exact ins_lift (fun K H => aField_det H) H
    | exact ins_lift (fun K H => aIndexAddr_det H) H
    | exact ins_lift (fun K H => aExtract_det H) H
    | exact ins_lift (fun K H => aIndex_det H) H
    | exact ins_lift (fun K H => aMkI_det H) H
    | exact ins_lift (fun K H => aTyA_det H) H
    | exact H.elim
    | skip
  split at H
  · rename_i hb; obtain ⟨rfl, rfl⟩ := H; exact ⟨rfl, fun _ => by simp⟩
  · exact H.elim

theorem DetV.ins {o : Oper} {v : AV} {h' : AH} (hi : ins o.op = true) (H : DetV P Γ o σ h v h') : h' = h ∧ ∀ h2, DetV P Γ o σ h2 v h2 := by
  unfold DetV aOper0 at *
  cases hop : o.op with
  | call c => rw [hop] at hi; simp [Abs.ins] at hi
  | _ => rw [hop] at H hi; exact aop_ins hi H

def Step1 (P : Program) (Γ : Nat → Option (List AV)) (ops : List Oper) (h : AH) (o : Oper) (σ : Tm) (v : AV) (h' : AH) : Prop :=
  match o.guard with
  | none => DetV P Γ o σ h v h'
  | some (j, want) => ∃ t b, dstAt ops j = some t ∧ gv (lk σ t) = some b ∧ ((b = some want ∧ DetV P Γ o σ h v h') ∨ (b ≠ some want ∧ v = .tuple [] ∧ h' = h))

theorem Step1.ins {ops : List Oper} {o : Oper} {v : AV} {h' : AH} (hi : ins o.op = true) (H : Step1 P Γ ops h o σ v h') : h' = h ∧ ∀ h2, Step1 P Γ ops h2 o σ v h2 := by
  unfold Step1 at *
  split at H
  · exact H.ins hi
  · obtain ⟨t, b, k1, k2, k3⟩ := H
    rcases k3 with ⟨k3, k4⟩ | ⟨k3, k4, k5⟩
    · obtain ⟨e1, e2⟩ := k4.ins hi
      exact ⟨e1, fun h2 => ⟨t, b, k1, k2, .inl ⟨k3, e2 h2⟩⟩⟩
    · exact ⟨k5, fun h2 => ⟨t, b, k1, k2, .inr ⟨k3, k4, rfl⟩⟩⟩

/-! ### Cells that are made ahead of their turn -/
def putAt (h : AH) (k : Nat) (r : AObj) : AH := (h ++ List.replicate (k + 1 - h.length) AObj.hole).set k r
def isHole (o : Option AObj) : Prop := o = none ∨ o = some .hole
def isAl (o : Oper) : Bool := al o.op && o.guard.isNone
theorem putAt_get (h : AH) (k : Nat) (r : AObj) (i : Nat) : (putAt h k r)[i]? = if i = k then some r else if i < h.length then h[i]? else if i < k then some AObj.hole else none := by
  unfold putAt
  rw [List.getElem?_set]
  by_cases hik : i = k
  · subst hik
    rw [if_pos rfl, if_pos rfl, if_pos (by simp; omega)]
  · rw [if_neg (fun e => hik e.symm), if_neg hik, List.getElem?_append]
    split
    · rfl
    · rename_i hlt
      rw [List.getElem?_replicate]
      by_cases h2 : i < k
      · rw [if_pos h2, if_pos (by omega)]
      · rw [if_neg h2, if_neg (by omega)]
theorem putAt_end (h : AH) (r : AObj) : putAt h h.length r = h ++ [r] := by
  refine List.ext_getElem? fun i => ?_
  rw [putAt_get, List.getElem?_append]
  by_cases h1 : i < h.length
  · rw [if_neg (by omega), if_pos h1, if_pos h1]
  · rw [if_neg h1]
    by_cases h2 : i = h.length
    · subst h2; simp
    · rw [if_neg h2, if_neg h1, if_neg (by omega), List.getElem?_eq_none (by simp; omega)]
theorem isHole.of_put {h : AH} {k k' : Nat} {r : AObj} (hr : r ≠ .hole) (H : isHole (putAt h k' r)[k]?) : k ≠ k' ∧ isHole h[k]? := by
  rw [putAt_get] at H
  by_cases e : k = k'
  · rw [if_pos e] at H
    rcases H with H | H
    · cases H
    · cases H; exact absurd rfl hr
  · rw [if_neg e] at H
    refine ⟨e, ?_⟩
    split at H
    · exact H
    · rename_i hlt; exact .inl (List.getElem?_eq_none (by omega))
theorem isHole.put {h : AH} {k k' : Nat} {r : AObj} (hk : k ≠ k') (H : isHole h[k]?) : isHole (putAt h k' r)[k]? := by
  rw [putAt_get, if_neg hk]
  split
  · exact H
  · split
    · exact .inr rfl
    · exact .inl rfl
theorem putAt_comm {h : AH} {k k' : Nat} {r r' : AObj} (hk : k ≠ k') : putAt (putAt h k r) k' r' = putAt (putAt h k' r') k r := by
  have hl : ∀ (h : AH) k r, (putAt h k r).length = max h.length (k + 1) := fun h k r => by unfold putAt; simp; omega
  refine List.ext_getElem? fun i => ?_
  rw [putAt_get, putAt_get, putAt_get, putAt_get, hl, hl]
  by_cases h1 : i = k
  · subst h1
    rw [if_neg hk, if_pos rfl, if_pos rfl, if_pos (by omega)]
  · by_cases h2 : i = k'
    · subst h2
      rw [if_pos rfl, if_neg h1, if_pos rfl, if_pos (by omega)]
    · rw [if_neg h2, if_neg h1, if_neg h1, if_neg h2]
      have e1 : i < h.length → i < max h.length (k + 1) := fun _ => by omega
      have e2 : i < h.length → i < max h.length (k' + 1) := fun _ => by omega
      by_cases h3 : i < h.length
      · simp only [if_pos h3, if_pos (e1 h3), if_pos (e2 h3)]
      · by_cases h4 : i < k <;> by_cases h5 : i < k' <;> simp only [h3, h4, h5, if_true, if_false, show (i < max h.length (k + 1)) = (i < k) from propext (by omega), show (i < max h.length (k' + 1)) = (i < k') from propext (by omega)]
theorem putAt_prefix (h0 l0 : AH) {k : Nat} (r : AObj) (hk : h0.length ≤ k) : ∃ l, putAt (h0 ++ l0) k r = h0 ++ l := by
  refine ⟨(l0 ++ List.replicate (k + 1 - (h0 ++ l0).length) AObj.hole).set (k - h0.length) r, ?_⟩
  unfold putAt
  rw [List.append_assoc, List.set_append_right _ _ hk]

def AlStep (P : Program) (Γ : Nat → Option (List AV)) (m : Nat) (h : AH) (o : Oper) (σ : Tm) (v : AV) (h' : AH) : Prop :=
  ∃ k row, m ≤ k ∧ v = .ptr (some (k, 0)) ∧ isHole h[k]? ∧ row ≠ .hole ∧ h' = putAt h k row ∧ DetV P Γ o σ [] (.ptr (some (0, 0))) [row]
def Stp (P : Program) (Γ : Nat → Option (List AV)) (ops : List Oper) (m : Nat) (h : AH) (o : Oper) (σ : Tm) (v : AV) (h' : AH) : Prop :=
  if isAl o = true then AlStep P Γ m h o σ v h' else Step1 P Γ ops h o σ v h'
/-- What is called does not look at what lies behind. -/
def CalK (P : Program) (Γ : Nat → Option (List AV)) (ops : List Oper) (n : Nat) (h : AH) (o : Oper) (σ : Tm) (v : AV) : Prop :=
  cal o.op = true → ∃ h0 l0, h0.length ≤ n ∧ h = h0 ++ l0 ∧ ∀ l, Step1 P Γ ops (h0 ++ l) o σ v (h0 ++ l)
def Keep1 (P : Program) (Γ : Nat → Option (List AV)) (ops : List Oper) (n : Nat) (h : AH) (o : Oper) (σ : Tm) (v : AV) (h' : AH) : Prop :=
  (wr o.op = false → h' = h) ∧ CalK P Γ ops n h o σ v
def Seq1 (P : Program) (Γ : Nat → Option (List AV)) (ops : List Oper) : Nat → AH → List Oper → Tm → (Tm → AH → Prop) → Prop
  | _, h, [], σ, K => K σ h
  | m, h, o :: r, σ, K => ∃ v h' n, Stp P Γ ops m h o σ v h' ∧ Keep1 P Γ ops n h o σ v h' ∧ m ≤ n ∧ Seq1 P Γ ops n h' r (put o.dst v σ) K

theorem DetV.al {o : Oper} {v : AV} {h' : AH} (hi : Abs.al o.op = true) (H : DetV P Γ o σ h v h') : v = .ptr (some (h.length, 0)) ∧ ∃ row, row ≠ .hole ∧ h' = h ++ [row] ∧ DetV P Γ o σ [] (.ptr (some (0, 0))) [row] := by
  unfold DetV aOper0 at H
  unfold Abs.al at hi
  unfold DetV aOper0
  split at hi
  · rename_i t hc
    rw [hc] at H ⊢
    simp only [aop] at H ⊢
    unfold aAlloc at H ⊢
    split at H
    · exact ⟨H.1.symm, _, by simp, H.2.symm, by simp⟩
    · exact H.elim
  · rename_i t x hc
    rw [hc] at H ⊢
    simp only [aop] at H ⊢
    unfold aBox at H ⊢
    exact ⟨H.2.1.symm, _, by simp, H.2.2.symm, by simp [H.1]⟩
  · cases hi
theorem isAl_al {o : Oper} (hi : isAl o = true) : al o.op = true ∧ o.guard = none := by
  unfold isAl at hi
  rw [Bool.and_eq_true] at hi
  exact ⟨hi.1, by simpa using hi.2⟩
theorem al_wr {op : Op} (hi : al op = true) : wr op = true ∧ cal op = false := by
  unfold al at hi
  split at hi <;> first | exact ⟨rfl, rfl⟩ | cases hi
theorem Stp.of {ops : List Oper} {o : Oper} {v : AV} {h' : AH} {m : Nat} (hm : m ≤ h.length) (H : Step1 P Γ ops h o σ v h') : Stp P Γ ops m h o σ v h' := by
  unfold Stp
  split
  · rename_i hi
    obtain ⟨h1, h2⟩ := isAl_al hi
    unfold Step1 at H
    rw [h2] at H
    obtain ⟨rfl, row, k1, rfl, k2⟩ := DetV.al h1 H
    exact ⟨h.length, row, hm, rfl, .inl (List.getElem?_eq_none (Nat.le_refl _)), k1, (putAt_end h row).symm, k2⟩
  · exact H
theorem DetV.len {o : Oper} {v : AV} {h' : AH} (hw : wr o.op = true) (H : DetV P Γ o σ h v h') : h.length ≤ h'.length := by
  unfold wr at hw
  split at hw
  · rename_i t a x hc
    unfold DetV aOper0 at H
    rw [hc] at H
    simp only [aop] at H
    unfold aStore at H
    split at H
    · split at H
      · obtain ⟨_, _, _, _, rfl⟩ := H
        simp
      · exact H.elim
    · exact H.elim
  · rename_i t m k x hc
    unfold DetV aOper0 at H
    rw [hc] at H
    simp only [aop] at H
    unfold aUp2 at H
    split at H
    · unfold aUpM at H
      split at H
      · obtain ⟨_, H⟩ := H
        split at H
        · split at H
          · obtain ⟨_, rfl⟩ := H
            simp
          · exact H.elim
        · exact H.elim
      · exact H.elim
    unfold aMapUpdate at H
    split at H
    · split at H
      · obtain ⟨_, H⟩ := H
        split at H
        · split at H
          · split at H
            · obtain ⟨_, rfl⟩ := H
              simp
            · exact H.elim
          · exact H.elim
        · exact H.elim
      · exact H.elim
    · exact H.elim
  · rename_i t m k x hc
    unfold DetV aOper0 at H
    rw [hc] at H
    simp only [aop] at H
    unfold aUp2 at H
    split at H
    · unfold aUpM at H
      split at H
      · obtain ⟨_, H⟩ := H
        split at H
        · split at H
          · obtain ⟨_, rfl⟩ := H
            simp
          · exact H.elim
        · exact H.elim
      · exact H.elim
    unfold aMapUpdate at H
    split at H
    · split at H
      · obtain ⟨_, H⟩ := H
        split at H
        · split at H
          · split at H
            · obtain ⟨_, rfl⟩ := H
              simp
            · exact H.elim
          · exact H.elim
        · exact H.elim
      · exact H.elim
    · exact H.elim
  · rename_i t hc
    obtain ⟨_, row, _, rfl, _⟩ := DetV.al (by rw [hc]; rfl) H
    simp
  · rename_i t x hc
    obtain ⟨_, row, _, rfl, _⟩ := DetV.al (by rw [hc]; rfl) H
    simp
  · rename_i t r hc
    unfold DetV aOper0 at H
    rw [hc] at H
    cases r with
    | none =>
      simp only [aop] at H
      obtain ⟨_, rfl⟩ := H
      simp
    | some r => exact H.elim
  · rename_i t l c hc
    unfold DetV aOper0 at H
    rw [hc] at H
    simp only [aop] at H
    unfold aMakeSlice at H
    split at H
    · split at H
      · split at H
        · obtain ⟨_, _, _, _, _, _, _, rfl⟩ := H
          simp
        · exact H.elim
      · exact H.elim
    · exact H.elim
  · rename_i t x hc
    unfold DetV aOper0 at H
    rw [hc] at H
    simp only [aop] at H
    unfold aRange at H
    split at H
    · obtain ⟨_, rfl⟩ := H; simp
    · split at H
      · obtain ⟨_, rfl⟩ := H; simp
      · exact H.elim
    · exact H.elim
  · rename_i c hc
    split at hw
    · rename_i hcc
      unfold DetV aOper0 at H
      rw [hc] at H
      simp only [aop, hcc] at H
      unfold aBuiltin at H
      split at H <;> first
        | contradiction
        | skip
      · unfold aAppend at H
        split at H
        · exact H.elim
        · split at H
          · obtain ⟨_, _, xs, _, _, _, _, _, H⟩ := H
            split at H
            · obtain ⟨_, _, rfl⟩ := H; simp
            · obtain ⟨_, rfl⟩ := H; simp
            · split at H
              · obtain ⟨_, _, rfl⟩ := H; simp
              · exact H.elim
          · exact H.elim
        · exact H.elim
    · rename_i hcc
      unfold DetV aOper0 at H
      rw [hc] at H
      simp only [aop, hcc] at H
      unfold aBuiltin at H
      split at H <;> first
        | contradiction
        | skip
      · unfold aClear at H
        split at H
        · obtain ⟨_, rfl⟩ := H; simp
        · split at H
          · obtain ⟨_, _, _, _, _, _, rfl⟩ := H; simp
          · exact H.elim
        · exact H.elim
    · cases hw
  · cases hw
theorem Step1.len {ops : List Oper} {o : Oper} {v : AV} {h' : AH} (H : Step1 P Γ ops h o σ v h') (hk : wr o.op = false → h' = h) : h.length ≤ h'.length := by
  cases hw : wr o.op with
  | false => rw [hk hw]; exact Nat.le_refl _
  | true =>
    unfold Step1 at H
    split at H
    · exact H.len hw
    · obtain ⟨t, b, k1, k2, k3⟩ := H
      rcases k3 with ⟨_, k4⟩ | ⟨_, _, rfl⟩
      · exact k4.len hw
      · exact Nat.le_refl _

/-- Operations that look at rows alone. -/
def rd : Op → Bool
  | .load .. => true
  | _ => false
/-- Operations that turn arenas alone. -/
def apd : Op → Bool
  | .call c => (match c.callee with
    | .builtin .append => true
    | _ => false)
  | _ => false
/-- The rows are the same. -/
def Ap (h h' : AH) : Prop := ∀ (i : Nat) (cs : List AV) (T : TypeId), h[i]? = some (.row cs T) ↔ h'[i]? = some (.row cs T)

theorem aAppend_Ap {t u : TypeId} {s x : AV} {v : AV} {h' : AH} (H : aAppend P t u s x h fun v' h'' => v' = v ∧ h'' = h') : Ap h h' := by
  unfold aAppend at H
  split at H
  · exact H.elim
  · split at H
    · obtain ⟨_, _, xs, _, _, _, _, _, H⟩ := H
      split at H
      · obtain ⟨_, _, rfl⟩ := H
        exact fun _ _ _ => Iff.rfl
      · obtain ⟨_, rfl⟩ := H
        intro i cs T
        rw [List.getElem?_append]
        split
        · exact Iff.rfl
        · rename_i hi
          constructor
          · intro e; exact absurd (List.getElem?_eq_some_iff.1 e).1 hi
          · intro e
            cases hk : i - h.length with
            | zero => rw [hk] at e; simp at e
            | succ k => rw [hk] at e; simp at e
      · split at H
        · rename_i hi
          obtain ⟨_, _, rfl⟩ := H
          intro i cs T
          rw [List.getElem?_set]
          split
          · rename_i hj
            subst hj
            rw [hi]
            constructor
            · intro e; cases e
            · intro e; split at e <;> cases e
          · exact Iff.rfl
        · exact H.elim
    · exact H.elim
  · exact H.elim
theorem DetV.apd {o : Oper} {v : AV} {h' : AH} (hi : apd o.op = true) (H : DetV P Γ o σ h v h') : Ap h h' := by
  unfold DetV aOper0 at H
  unfold Abs.apd at hi
  split at hi
  · rename_i c hc
    rw [hc] at H
    simp only at H
    split at hi
    · rename_i hcc
      rw [hcc] at H
      simp only [aop, hcc] at H
      unfold aBuiltin at H
      split at H <;> first
        | contradiction
        | exact aAppend_Ap H
        | exact H.elim
    · cases hi
  · cases hi
theorem aLoad_Ap {t : TypeId} {a v : AV} {h1 h2 : AH} (hA : Ap h1 h2) (H : aLoad P t a h1 fun v' h'' => v' = v ∧ h'' = h1) : aLoad P t a h2 fun v' h'' => v' = v ∧ h'' = h2 := by
  unfold aLoad at *
  split at H
  · rename_i i o
    split at H
    · rename_i cs T hr
      rw [(hA i cs T).1 hr]
      obtain ⟨v0, ⟨rfl, _⟩, k⟩ := aLd_det H
      exact k _ (by simp)
    · exact H.elim
  · obtain ⟨v0, ⟨rfl, _⟩, k⟩ := aLd_det H
    exact k _ (by simp)
  · exact H.elim
theorem DetV.rd {o : Oper} {v : AV} {h1 h2 : AH} (hi : rd o.op = true) (hA : Ap h1 h2) (H : DetV P Γ o σ h1 v h1) : DetV P Γ o σ h2 v h2 := by
  unfold DetV aOper0 at *
  unfold Abs.rd at hi
  split at hi
  · rename_i t a hc
    rw [hc] at H ⊢
    exact aLoad_Ap hA H
  · cases hi
theorem Step1.apd {ops : List Oper} {o : Oper} {v : AV} {h' : AH} (hi : Abs.apd o.op = true) (H : Step1 P Γ ops h o σ v h') : Ap h h' := by
  unfold Step1 at H
  split at H
  · exact H.apd hi
  · obtain ⟨t, b, k1, k2, k3⟩ := H
    rcases k3 with ⟨_, k4⟩ | ⟨_, _, rfl⟩
    · exact k4.apd hi
    · exact fun _ _ _ => Iff.rfl
theorem Step1.rd {ops : List Oper} {o : Oper} {v : AV} {h1 h2 : AH} (hi : Abs.rd o.op = true) (hA : Ap h1 h2) (H : Step1 P Γ ops h1 o σ v h1) : Step1 P Γ ops h2 o σ v h2 := by
  unfold Step1 at *
  split at H
  · exact H.rd hi hA
  · obtain ⟨t, b, k1, k2, k3⟩ := H
    rcases k3 with ⟨k3, k4⟩ | ⟨k3, k4, _⟩
    · exact ⟨t, b, k1, k2, .inl ⟨k3, k4.rd hi hA⟩⟩
    · exact ⟨t, b, k1, k2, .inr ⟨k3, k4, rfl⟩⟩
theorem Ap.symm {h h' : AH} (hA : Ap h h') : Ap h' h := fun i cs T => (hA i cs T).symm
theorem rd_wr {op : Op} (hi : rd op = true) : wr op = false := by
  unfold rd at hi
  split at hi
  · rfl
  · cases hi

/-- All names that an operation looks at, its guard's too. -/
def looks (ops : List Oper) (o : Oper) : List Tmp := opT o.op ++ (match o.guard with
  | some (j, _) => (dstAt ops j).toList
  | none => [])

theorem Step1.same {ops : List Oper} {o : Oper} {v : AV} {h' : AH} (H : ∀ t ∈ looks ops o, lk σ t = lk σ' t) (h1 : Step1 P Γ ops h o σ v h') : Step1 P Γ ops h o σ' v h' := by
  unfold Step1 at *
  have H1 : ∀ t ∈ opT o.op, lk σ t = lk σ' t := fun t ht => H t (List.mem_append_left _ ht)
  split at h1
  · exact h1.same H1
  · rename_i j want hg
    obtain ⟨t, b, k1, k2, k3⟩ := h1
    refine ⟨t, b, k1, ?_, k3.imp (fun k => ⟨k.1, k.2.same H1⟩) id⟩
    rw [← H t (List.mem_append_right _ (by simp [hg, k1]))]
    exact k2

def Eqv (σ σ' : Tm) : Prop := ∀ i, lk σ i = lk σ' i
theorem Eqv.put {d : Option Tmp} {v : AV} (e : Eqv σ σ') : Eqv (put d v σ) (put d v σ') := fun i => by
  cases d with
  | none => exact e i
  | some d => simp only [Abs.put, lk]; rw [e i]

theorem Stp.same {ops : List Oper} {o : Oper} {v : AV} {h' : AH} {m : Nat} (H : ∀ t ∈ looks ops o, lk σ t = lk σ' t) (h1 : Stp P Γ ops m h o σ v h') : Stp P Γ ops m h o σ' v h' := by
  unfold Stp at *
  split
  · rename_i hi
    rw [if_pos hi] at h1
    obtain ⟨k, row, a1, a2, a3, a4, a5, a6⟩ := h1
    exact ⟨k, row, a1, a2, a3, a4, a5, a6.same fun t ht => H t (List.mem_append_left _ ht)⟩
  · rename_i hi
    rw [if_neg hi] at h1
    exact h1.same H
theorem Stp.low {ops : List Oper} {o : Oper} {v : AV} {h' : AH} {m m' : Nat} (hm : m' ≤ m) (h1 : Stp P Γ ops m h o σ v h') : Stp P Γ ops m' h o σ v h' := by
  unfold Stp at *
  split
  · rename_i hi
    rw [if_pos hi] at h1
    obtain ⟨k, row, a1, a2, a3, a4, a5, a6⟩ := h1
    exact ⟨k, row, Nat.le_trans hm a1, a2, a3, a4, a5, a6⟩
  · rename_i hi
    rw [if_neg hi] at h1
    exact h1
theorem CalK.same {ops : List Oper} {o : Oper} {v : AV} {n : Nat} (H : ∀ t ∈ looks ops o, lk σ t = lk σ' t) (h1 : CalK P Γ ops n h o σ v) : CalK P Γ ops n h o σ' v := fun hc => by
  obtain ⟨h0, l0, a1, a2, a3⟩ := h1 hc
  exact ⟨h0, l0, a1, a2, fun l => (a3 l).same H⟩
theorem Seq1.low {ops : List Oper} {m m' : Nat} (hm : m' ≤ m) {l : List Oper} {K : Tm → AH → Prop} (H : Seq1 P Γ ops m h l σ K) : Seq1 P Γ ops m' h l σ K := by
  cases l with
  | nil => exact H
  | cons o r =>
    obtain ⟨v, h', n, h1, h2, h3, h4⟩ := H
    exact ⟨v, h', n, h1.low hm, h2, Nat.le_trans hm h3, h4⟩
theorem Seq1.same {ops : List Oper} : ∀ (l : List Oper) (m : Nat) (h : AH) (σ σ' : Tm) {K : Tm → AH → Prop}, Eqv σ σ' → Seq1 P Γ ops m h l σ K → Seq1 P Γ ops m h l σ' fun σ h => ∃ σ', Eqv σ σ' ∧ K σ' h
  | [], m, h, σ, σ', K, e, H => ⟨σ, fun i => (e i).symm, H⟩
  | o :: r, m, h, σ, σ', K, e, H => by
    obtain ⟨v, h', n, h1, h2, h3, h4⟩ := H
    exact ⟨v, h', n, h1.same fun t _ => e t, ⟨h2.1, h2.2.same fun t _ => e t⟩, h3, Seq1.same r _ _ _ _ e.put h4⟩

theorem Seq1.mono {ops : List Oper} : ∀ (l : List Oper) (m : Nat) (h : AH) (σ : Tm) {K K' : Tm → AH → Prop}, (∀ σ h, K σ h → K' σ h) → Seq1 P Γ ops m h l σ K → Seq1 P Γ ops m h l σ K'
  | [], m, h, σ, K, K', e, H => e _ _ H
  | o :: r, m, h, σ, K, K', e, H => by
    obtain ⟨v, h', n, h1, h2, h3, h4⟩ := H
    exact ⟨v, h', n, h1, h2, h3, Seq1.mono r _ _ _ e h4⟩

theorem aDets_seq {ops : List Oper} {K : Tm → AH → Prop} : ∀ (l : List Oper) (m : Nat) (h : AH) (σ σ' : Tm), m ≤ h.length → Eqv σ σ' → aDets P Γ ops K l σ h → Seq1 P Γ ops m h l σ' fun σ'' h => ∃ σ3, Eqv σ'' σ3 ∧ K σ3 h
  | [], m, h, σ, σ', hm, e, H => ⟨σ, fun i => (e i).symm, H⟩
  | o :: r, m, h, σ, σ', hm, e, H => by
    have fin : ∀ {v : AV} {h' : AH} {σ1 : Tm}, Step1 P Γ ops h o σ' v h' → (wr o.op = false → h' = h) → (cal o.op = true → ∀ l, Step1 P Γ ops (h ++ l) o σ' v (h ++ l)) → Eqv (put o.dst v σ1) (put o.dst v σ') → aDets P Γ ops K r (put o.dst v σ1) h' →
        Seq1 P Γ ops m h (o :: r) σ' fun σ'' h => ∃ σ3, Eqv σ'' σ3 ∧ K σ3 h := fun {v h' σ1} s1 k1 k2 e1 H1 =>
      ⟨v, h', h.length, Stp.of hm s1, ⟨k1, fun hc => ⟨h, [], Nat.le_refl _, (List.append_nil h).symm, k2 hc⟩⟩, hm, aDets_seq r _ _ _ _ (s1.len k1) e1 H1⟩
    unfold aDets at H
    split at H
    · rename_i hg
      obtain ⟨v, h', h1, h2, h3⟩ := aOperD_det H
      refine fin ?_ h3.1 (fun hc l => ?_) e.put h1
      · unfold Step1; rw [hg]; exact h2.same fun t _ => e t
      · unfold Step1; rw [hg]; exact (h3.2 hc l).same fun t _ => e t
    · rename_i j want hg
      unfold aDst at H
      split at H
      · rename_i t ht
        rcases aBoolG_inv H with ⟨b, hb, H1, H2⟩ | ⟨hb, H⟩
        · have eb : ∀ b', b = b' → Eqv ((t, .bool b') :: σ) σ' := fun b' hb' i => by
            subst hb'
            simp only [lk]
            split
            · rename_i hi; subst hi; rw [← e i]; exact hb.symm
            · exact e i
          by_cases hbw : b = want
          · obtain ⟨v, h', h1, h2, h3⟩ := aOperD_det (H1 hbw)
            refine fin ?_ h3.1 (fun hc l => ?_) (eb _ hbw).put h1
            · unfold Step1; rw [hg]
              exact ⟨t, some b, ht, by rw [← e t, hb]; rfl, .inl ⟨by rw [hbw], h2.same fun t _ => eb _ hbw t⟩⟩
            · unfold Step1; rw [hg]
              exact ⟨t, some b, ht, by rw [← e t, hb]; rfl, .inl ⟨by rw [hbw], (h3.2 hc l).same fun t _ => eb _ hbw t⟩⟩
          · have hbn : b = !want := by cases b <;> cases want <;> simp_all
            refine fin (h' := h) ?_ (fun _ => rfl) (fun hc l => ?_) (eb _ hbn).put (H2 hbn)
            · unfold Step1; rw [hg]
              exact ⟨t, some b, ht, by rw [← e t, hb]; rfl, .inr ⟨by simpa using hbw, rfl, rfl⟩⟩
            · unfold Step1; rw [hg]
              exact ⟨t, some b, ht, by rw [← e t, hb]; rfl, .inr ⟨by simpa using hbw, rfl, rfl⟩⟩
        · refine fin (h' := h) ?_ (fun _ => rfl) (fun hc l => ?_) e.put H
          · unfold Step1; rw [hg]
            exact ⟨t, none, ht, by rw [← e t, hb]; rfl, .inr ⟨by simp, rfl, rfl⟩⟩
          · unfold Step1; rw [hg]
            exact ⟨t, none, ht, by rw [← e t, hb]; rfl, .inr ⟨by simp, rfl, rfl⟩⟩
      · exact H.elim

/-! ### Cells that are looked at and cells that are written, in no order -/
def hasD (s : Nat) : List Oper → Bool
  | [] => false
  | o :: r => (o.dst == some s) || hasD s r
def ldK (op : Op) (ops : List Oper) (s' : Nat) (l : List (Nat × Nat)) : List (Nat × Nat) := match op with
  | .load _ (.tmp s) => bif (s == s' || hasD s ops) then l else (s, s') :: l
  | _ => l
def ldsX (ops : List Oper) (s' : Nat) : List Oper → List (Nat × Nat)
  | [] => []
  | o :: r => ldK o.op ops s' (ldsX ops s' r)
def stK (op : Op) (ops : List Oper) (l : List (Nat × Nat)) : List (Nat × Nat) := match op with
  | .store _ (.tmp s') _ => bif hasD s' ops then l else ldsX ops s' ops ++ l
  | _ => l
def sepsX (ops : List Oper) : List Oper → List (Nat × Nat)
  | [] => []
  | o :: r => stK o.op ops (sepsX ops r)
/-- Pairs of names of cells, the one looked at, the other written, that must be different cells. -/
def seps (ops : List Oper) : List (Nat × Nat) := sepsX ops ops
def rowsNe (a b : AV) : Prop := match a, b with
  | .ptr (some (i, _)), .ptr (some (j, _)) => i ≠ j
  | _, _ => True
def Sep (σ : Tm) : List (Nat × Nat) → Prop
  | [] => True
  | (s, s') :: l => rowsNe (lk σ s) (lk σ s') ∧ Sep σ l
def ldst (ops : List Oper) (x y : Op) : Bool := match x, y with
  | .load _ (.tmp s), .store _ (.tmp s') _ => (seps ops).contains (s, s')
  | _, _ => false
theorem Sep.at {l : List (Nat × Nat)} {s s' : Nat} : Sep σ l → (s, s') ∈ l → rowsNe (lk σ s) (lk σ s') := by
  induction l with
  | nil => intro _ hm; simp at hm
  | cons a l ih =>
    obtain ⟨t, t'⟩ := a
    intro H hm
    rcases List.mem_cons.1 hm with e | e
    · cases e; exact H.1
    · exact ih H.2 e
theorem hasD_of {s : Nat} {ops : List Oper} {o : Oper} (ho : o ∈ ops) (hd : o.dst = some s) : hasD s ops = true := by
  induction ops with
  | nil => simp at ho
  | cons a r ih =>
    rcases List.mem_cons.1 ho with rfl | ho
    · simp [hasD, hd]
    · simp [hasD, ih ho]
theorem ldsX_free {ops : List Oper} {s' : Nat} : ∀ (l : List Oper) (p : Nat × Nat), p ∈ ldsX ops s' l → hasD p.1 ops = false ∧ p.2 = s'
  | [], p, hm => by simp [ldsX] at hm
  | o :: r, p, hm => by
    unfold ldsX ldK at hm
    split at hm
    · rename_i _ s _
      cases hc : (s == s' || hasD s ops) with
      | true => rw [hc] at hm; exact ldsX_free r p hm
      | false =>
        rw [hc] at hm
        rcases List.mem_cons.1 hm with rfl | hm
        · exact ⟨by simpa using (Bool.or_eq_false_iff.1 hc).2, rfl⟩
        · exact ldsX_free r p hm
    · exact ldsX_free r p hm
theorem sepsX_free {ops : List Oper} : ∀ (l : List Oper) (p : Nat × Nat), p ∈ sepsX ops l → hasD p.1 ops = false ∧ hasD p.2 ops = false
  | [], p, hm => by simp [sepsX] at hm
  | o :: r, p, hm => by
    unfold sepsX stK at hm
    split at hm
    · rename_i _ s' _ _
      cases hc : hasD s' ops with
      | true => rw [hc] at hm; exact sepsX_free r p hm
      | false =>
        rw [hc] at hm
        rcases List.mem_append.1 hm with hm | hm
        · obtain ⟨e1, e2⟩ := ldsX_free _ _ hm
          exact ⟨e1, by rw [e2]; exact hc⟩
        · exact sepsX_free r p hm
    · exact sepsX_free r p hm
theorem Sep.put {ops : List Oper} {o : Oper} {v : AV} (ho : o ∈ ops) (H : Sep σ (seps ops)) : Sep (put o.dst v σ) (seps ops) := by
  have key : ∀ (l : List (Nat × Nat)), (∀ p ∈ l, hasD p.1 ops = false ∧ hasD p.2 ops = false) → Sep σ l → Sep (Abs.put o.dst v σ) l := by
    intro l
    induction l with
    | nil => exact fun _ _ => trivial
    | cons a l ih =>
      obtain ⟨t, t'⟩ := a
      intro hf H
      refine ⟨?_, ih (fun p hp => hf p (List.mem_cons_of_mem _ hp)) H.2⟩
      have h1 := hf _ (List.mem_cons_self ..)
      cases hd : o.dst with
      | none => exact H.1
      | some d =>
        have e : ∀ u, hasD u ops = false → lk ((d, v) :: σ) u = lk σ u := fun u hu => by
          simp only [lk]
          rw [if_neg]
          rintro rfl
          rw [hasD_of ho hd] at hu
          cases hu
        show rowsNe (lk ((d, v) :: σ) t) (lk ((d, v) :: σ) t')
        rw [e t h1.1, e t' h1.2]
        exact H.1
  exact key _ (fun p hp => sepsX_free _ p hp) H

/-- What a store leaves as it was. -/
theorem Step1.store {ops : List Oper} {o : Oper} {v : AV} {h' : AH} {t : TypeId} {s' : Nat} {x : Operand} (ho : o.op = .store t (.tmp s') x) (H : Step1 P Γ ops h o σ v h') (k : Nat)
    (hk : ∀ i z, lk σ s' = .ptr (some (i, z)) → k ≠ i) : h'[k]? = h[k]? := by
  have key : DetV P Γ o σ h v h' → h'[k]? = h[k]? := fun H => by
    unfold DetV aOper0 at H
    rw [ho] at H
    simp only [aop] at H
    unfold aStore at H
    split at H
    · rename_i i z hp
      split at H
      · obtain ⟨_, _, _, H⟩ := H
        rw [← H.2, List.getElem?_set_ne]
        exact fun e => hk i z hp e.symm
      · exact H.elim
    · exact H.elim
  unfold Step1 at H
  split at H
  · exact key H
  · obtain ⟨_, _, _, _, k3⟩ := H
    rcases k3 with ⟨_, k4⟩ | ⟨_, _, rfl⟩
    · exact key k4
    · rfl
theorem Step1.loadAt {ops : List Oper} {o : Oper} {v : AV} {h1 h2 : AH} {t : TypeId} {s : Nat} (ho : o.op = .load t (.tmp s)) (hk : ∀ i z, lk σ s = .ptr (some (i, z)) → h2[i]? = h1[i]?) (H : Step1 P Γ ops h1 o σ v h1) : Step1 P Γ ops h2 o σ v h2 := by
  have key : DetV P Γ o σ h1 v h1 → DetV P Γ o σ h2 v h2 := fun H => by
    unfold DetV aOper0 at *
    rw [ho] at H ⊢
    simp only [aop] at H ⊢
    unfold aLoad at *
    split at H
    · rename_i i z hp
      have e := hk i z hp
      simp only
      rw [e]
      split at H
      · obtain ⟨v0, ⟨rfl, _⟩, k⟩ := aLd_det H
        exact k _ (by simp)
      · exact H.elim
    · rename_i cs hp
      obtain ⟨v0, ⟨rfl, _⟩, k⟩ := aLd_det H
      exact k _ (by simp)
    · exact H.elim
  unfold Step1 at *
  split at H
  · exact key H
  · obtain ⟨t, b, k1, k2, k3⟩ := H
    rcases k3 with ⟨k3, k4⟩ | ⟨k3, k4, _⟩
    · exact ⟨t, b, k1, k2, .inl ⟨k3, key k4⟩⟩
    · exact ⟨t, b, k1, k2, .inr ⟨k3, k4, rfl⟩⟩
theorem ldst_of {ops : List Oper} {x y : Op} (H : ldst ops x y = true) : ∃ t s t' s' z, x = .load t (.tmp s) ∧ y = .store t' (.tmp s') z ∧ (s, s') ∈ seps ops := by
  unfold ldst at H
  split at H
  · exact ⟨_, _, _, _, _, rfl, rfl, by simpa using H⟩
  · cases H
/-- A load and a store of different cells do not meddle with each other. -/
theorem Step1.ldst {ops : List Oper} {x y : Oper} {v v' : AV} {h1 h2 h3 h4 : AH} (H : Abs.ldst ops x.op y.op = true) (hs : Sep σ (seps ops)) (hy : Step1 P Γ ops h1 y σ v' h2) (e : (h3 = h1 ∧ h4 = h2) ∨ (h3 = h2 ∧ h4 = h1))
    (hx : Step1 P Γ ops h3 x σ v h3) : Step1 P Γ ops h4 x σ v h4 := by
  obtain ⟨t, s, t', s', z, e1, e2, hm⟩ := ldst_of H
  have hne := hs.at hm
  refine hx.loadAt e1 fun i o hp => ?_
  have := hy.store e2 i (fun j o' hp' => by rw [hp, hp'] at hne; exact hne)
  rcases e with ⟨rfl, rfl⟩ | ⟨rfl, rfl⟩
  · exact this
  · exact this.symm

/-- Two operations that do not meddle with each other's names, nor with what the other sees of the heap. -/
def apart1 (ops : List Oper) (x y : Oper) : Bool :=
  (match x.dst with
   | some d => !(looks ops y).contains d && y.dst != some d
   | none => true) &&
  (match y.dst with
   | some d => !(looks ops x).contains d
   | none => true) &&
  ((!wr x.op && !wr y.op) || ins x.op || ins y.op || (rd x.op && apd y.op) || (apd x.op && rd y.op) || ldst ops x.op y.op || ldst ops y.op x.op || (al x.op && (rd y.op || cal y.op)) || (isAl x && isAl y))

theorem apart1_spec {ops : List Oper} {x y : Oper} (h : apart1 ops x y = true) :
    (∀ d, x.dst = some d → d ∉ looks ops y) ∧ (∀ d, x.dst = some d → y.dst ≠ some d) ∧ (∀ d, y.dst = some d → d ∉ looks ops x) ∧ ((wr x.op = false ∧ wr y.op = false) ∨ ins x.op = true ∨ ins y.op = true ∨ (rd x.op = true ∧ apd y.op = true) ∨ (apd x.op = true ∧ rd y.op = true) ∨ ldst ops x.op y.op = true ∨ ldst ops y.op x.op = true ∨ (al x.op = true ∧ (rd y.op = true ∨ cal y.op = true)) ∨ (isAl x = true ∧ isAl y = true)) := by
  refine ⟨fun d hd => ?_, fun d hd => ?_, fun d hd => ?_, ?_⟩
  · simp [apart1, hd] at h
    exact h.1.1.1
  · simp [apart1, hd] at h
    exact h.1.1.2
  · simp [apart1, hd] at h
    exact h.1.2
  · simp only [apart1, Bool.and_eq_true, Bool.or_eq_true, Bool.not_eq_true'] at h
    rcases h.2 with (((((((h | h) | h) | h) | h) | h) | h) | h) | h
    · exact .inl h
    · exact .inr (.inl h)
    · exact .inr (.inr (.inl h))
    · exact .inr (.inr (.inr (.inl h)))
    · exact .inr (.inr (.inr (.inr (.inl h))))
    · exact .inr (.inr (.inr (.inr (.inr (.inl h)))))
    · exact .inr (.inr (.inr (.inr (.inr (.inr (.inl h))))))
    · exact .inr (.inr (.inr (.inr (.inr (.inr (.inr (.inl h)))))))
    · exact .inr (.inr (.inr (.inr (.inr (.inr (.inr (.inr h)))))))

theorem lk_put_other {d : Option Tmp} {v : AV} {t : Nat} (hd : ∀ x, d = some x → t ≠ x) : lk (put d v σ) t = lk σ t := by
  cases d with
  | none => rfl
  | some d => simp only [put, lk]; rw [if_neg (hd d rfl)]

theorem put_comm {d d' : Option Tmp} {v v' : AV} (hd : ∀ x, d = some x → d' ≠ some x) : Eqv (put d v (put d' v' σ)) (put d' v' (put d v σ)) := fun i => by
  cases d with
  | none => rfl
  | some x => cases d' with
    | none => rfl
    | some y =>
      have := hd x rfl
      simp only [put, lk]
      by_cases h1 : i = x
      · subst h1
        rw [if_pos rfl, if_neg (fun e => this (by rw [e])), if_pos rfl]
      · rw [if_neg h1, if_neg h1]

theorem ins_cal {op : Op} (hi : ins op = true) : cal op = false := by
  unfold ins at hi
  split at hi <;> first | rfl | cases hi
theorem rd_cal {op : Op} (hi : rd op = true) : cal op = false := by
  unfold rd at hi
  split at hi
  · rfl
  · cases hi
theorem cal_wr {op : Op} (hi : cal op = true) : wr op = false := by
  unfold cal at hi
  split at hi
  · rename_i c
    split at hi
    · rename_i f hf
      simp [wr, hf]
    · cases hi
  · cases hi
/-- A cell that is made stands behind all others. -/
theorem Step1.al {ops : List Oper} {o : Oper} {v : AV} {h' : AH} (hi : Abs.al o.op = true) (H : Step1 P Γ ops h o σ v h') : ∃ l, h' = h ++ l := by
  have key : DetV P Γ o σ h v h' → ∃ l, h' = h ++ l := fun H => by
    unfold DetV aOper0 at H
    unfold Abs.al at hi
    split at hi
    · rename_i t hc
      rw [hc] at H
      simp only [aop] at H
      unfold aAlloc at H
      split at H <;> first
        | exact ⟨_, H.2.symm⟩
        | exact ⟨_, H.2.2.symm⟩
        | exact H.elim
    · rename_i t x hc
      rw [hc] at H
      simp only [aop] at H
      unfold aBox at H
      first
        | exact ⟨_, H.2.symm⟩
        | exact ⟨_, H.2.2.symm⟩
    · cases hi
  unfold Step1 at H
  split at H
  · exact key H
  · obtain ⟨t, b, k1, k2, k3⟩ := H
    rcases k3 with ⟨_, k4⟩ | ⟨_, _, rfl⟩
    · exact key k4
    · exact ⟨[], by simp⟩
/-- What is loaded stays where cells are made behind it. -/
theorem Step1.rdL {ops : List Oper} {o : Oper} {v : AV} (hi : Abs.rd o.op = true) (H : Step1 P Γ ops h o σ v h) (l : AH) : Step1 P Γ ops (h ++ l) o σ v (h ++ l) := by
  have key : DetV P Γ o σ h v h → DetV P Γ o σ (h ++ l) v (h ++ l) := fun H => by
    unfold DetV aOper0 at *
    unfold Abs.rd at hi
    split at hi
    · rename_i t a hc
      rw [hc] at H ⊢
      simp only [aop] at H ⊢
      unfold aLoad at *
      split at H
      · rename_i i z hp
        simp only
        split at H
        · rename_i cs T hr
          rw [List.getElem?_append_left (List.getElem?_eq_some_iff.1 hr).1, hr]
          obtain ⟨v0, ⟨rfl, _⟩, k⟩ := aLd_det H
          exact k _ (by simp)
        · exact H.elim
      · rename_i cs hp
        obtain ⟨v0, ⟨rfl, _⟩, k⟩ := aLd_det H
        exact k _ (by simp)
      · exact H.elim
    · cases hi
  unfold Step1 at *
  split at H
  · exact key H
  · obtain ⟨t, b, k1, k2, k3⟩ := H
    rcases k3 with ⟨k3, k4⟩ | ⟨k3, k4, _⟩
    · exact ⟨t, b, k1, k2, .inl ⟨k3, key k4⟩⟩
    · exact ⟨t, b, k1, k2, .inr ⟨k3, k4, rfl⟩⟩
/-- What is loaded stays where a cell is made at a hole. -/
theorem Step1.rdP {ops : List Oper} {o : Oper} {v : AV} {k : Nat} {row : AObj} (hi : Abs.rd o.op = true) (hk : isHole h[k]?) (H : Step1 P Γ ops h o σ v h) : Step1 P Γ ops (putAt h k row) o σ v (putAt h k row) := by
  have key : DetV P Γ o σ h v h → DetV P Γ o σ (putAt h k row) v (putAt h k row) := fun H => by
    unfold DetV aOper0 at *
    unfold Abs.rd at hi
    split at hi
    · rename_i t a hc
      rw [hc] at H ⊢
      simp only [aop] at H ⊢
      unfold aLoad at *
      split at H
      · rename_i i z hp
        simp only
        split at H
        · rename_i cs T hr
          rw [putAt_get, if_neg (fun e => by subst e; rw [hr] at hk; rcases hk with hk | hk <;> cases hk), if_pos (List.getElem?_eq_some_iff.1 hr).1, hr]
          obtain ⟨v0, ⟨rfl, _⟩, k⟩ := aLd_det H
          exact k _ (by simp)
        · exact H.elim
      · rename_i cs hp
        obtain ⟨v0, ⟨rfl, _⟩, k⟩ := aLd_det H
        exact k _ (by simp)
      · exact H.elim
    · cases hi
  unfold Step1 at *
  split at H
  · exact key H
  · obtain ⟨t, b, k1, k2, k3⟩ := H
    rcases k3 with ⟨k3, k4⟩ | ⟨k3, k4, _⟩
    · exact ⟨t, b, k1, k2, .inl ⟨k3, key k4⟩⟩
    · exact ⟨t, b, k1, k2, .inr ⟨k3, k4, rfl⟩⟩
theorem CalK.no {ops : List Oper} {o : Oper} {v : AV} {n : Nat} (hc : cal o.op = false) : CalK P Γ ops n h o σ v := fun e => by rw [hc] at e; cases e
theorem Stp.al {ops : List Oper} {o : Oper} {v : AV} {h' : AH} {m : Nat} (hi : isAl o = true) (H : Stp P Γ ops m h o σ v h') : AlStep P Γ m h o σ v h' := by
  unfold Stp at H; rwa [if_pos hi] at H
theorem Stp.no {ops : List Oper} {o : Oper} {v : AV} {h' : AH} {m : Nat} (hi : ¬ isAl o = true) (H : Stp P Γ ops m h o σ v h') : Step1 P Γ ops h o σ v h' := by
  unfold Stp at H; rwa [if_neg hi] at H
theorem Stp.mkA {ops : List Oper} {o : Oper} {v : AV} {h' : AH} {m : Nat} (hi : isAl o = true) (H : AlStep P Γ m h o σ v h') : Stp P Γ ops m h o σ v h' := by
  unfold Stp; rwa [if_pos hi]
theorem Stp.mk1 {ops : List Oper} {o : Oper} {v : AV} {h' : AH} {m : Nat} (hi : ¬ isAl o = true) (H : Step1 P Γ ops h o σ v h') : Stp P Γ ops m h o σ v h' := by
  unfold Stp; rwa [if_neg hi]
theorem ins_al {op : Op} (hi : ins op = true) : al op = false := by
  unfold ins at hi
  split at hi <;> first | rfl | cases hi
theorem rd_al {op : Op} (hi : rd op = true) : al op = false := by
  unfold rd at hi
  split at hi
  · rfl
  · cases hi
theorem apd_al {op : Op} (hi : apd op = true) : al op = false := by
  unfold apd at hi
  split at hi
  · rfl
  · cases hi
theorem ldst_al {ops : List Oper} {x y : Op} (hi : ldst ops x y = true) : al x = false ∧ al y = false ∧ cal y = false := by
  obtain ⟨t, s, t', s', z, rfl, rfl, _⟩ := ldst_of hi
  exact ⟨rfl, rfl, rfl⟩
theorem isAl_no {o : Oper} (hi : al o.op = false) : ¬ isAl o = true := fun e => by rw [(isAl_al e).1] at hi; cases hi
theorem Seq1.pull {ops : List Oper} {o : Oper} {L2 : List Oper} : ∀ (L1 : List Oper) (m : Nat) (h : AH) (σ : Tm) {K : Tm → AH → Prop}, (∀ x ∈ L1, apart1 ops o x = true ∧ x ∈ ops) → Sep σ (seps ops) → Seq1 P Γ ops m h (L1 ++ o :: L2) σ K →
    ∃ v h', Stp P Γ ops m h o σ v h' ∧ (wr o.op = false → h' = h) ∧ Seq1 P Γ ops m h' (L1 ++ L2) (put o.dst v σ) fun σ h => ∃ σ', Eqv σ σ' ∧ K σ' h
  | [], m, h, σ, K, _, _, H => by
    obtain ⟨v, h', n, h1, h2, hmn, h3⟩ := H
    exact ⟨v, h', h1, h2.1, (Seq1.mono _ _ _ _ (fun σ h k => ⟨σ, fun _ => rfl, k⟩) h3).low hmn⟩
  | x :: L1, m, h, σ, K, hap, hsep, H => by
    obtain ⟨vx, hx, n, h1, h2, hmn, h3⟩ := H
    obtain ⟨v, h', k1, k2, k3⟩ := Seq1.pull L1 _ _ _ (fun y hy => hap y (List.mem_cons_of_mem _ hy)) (hsep.put (hap x (List.mem_cons_self ..)).2) h3
    obtain ⟨a1, a2, a3, a4⟩ := apart1_spec (hap x (List.mem_cons_self ..)).1
    have s1 : Stp P Γ ops n hx o σ v h' := k1.same fun t ht => lk_put_other fun y hy e => a3 y hy (e ▸ ht)
    have s2 : Stp P Γ ops m h x (put o.dst v σ) vx hx := h1.same fun t ht => (lk_put_other fun y hy e => a1 y hy (e ▸ ht)).symm
    have fin : ∀ {h3 : AH}, Seq1 P Γ ops n h3 (L1 ++ L2) (put o.dst v (put x.dst vx σ)) (fun σ h => ∃ σ', Eqv σ σ' ∧ K σ' h) → Seq1 P Γ ops n h3 (L1 ++ L2) (put x.dst vx (put o.dst v σ)) fun σ h => ∃ σ', Eqv σ σ' ∧ K σ' h := fun k => by
      refine Seq1.mono _ _ _ _ ?_ (Seq1.same _ _ _ _ _ (put_comm a2) k)
      rintro σ1 h1 ⟨σ2, e1, σ3, e2, k⟩
      exact ⟨σ3, fun i => (e1 i).trans (e2 i), k⟩
    have hC : CalK P Γ ops n h x (put o.dst v σ) vx := h2.2.same fun t ht => (lk_put_other fun y hy e => a1 y hy (e ▸ ht)).symm
    have h2 := h2.1
    by_cases hao : isAl o = true
    · obtain ⟨w1, w2⟩ := al_wr (isAl_al hao).1
      obtain ⟨k, row, b1, rfl, b3, b4, b5, b6⟩ := s1.al hao
      have stay : ∀ {h1' : AH}, h1' = h → hx = h1' → Step1 P Γ ops (putAt h k row) x (put o.dst (.ptr (some (k, 0))) σ) vx (putAt h k row) → CalK P Γ ops n (putAt h k row) x (put o.dst (.ptr (some (k, 0))) σ) vx → ¬ isAl x = true →
          ∃ v h', Stp P Γ ops m h o σ v h' ∧ (wr o.op = false → h' = h) ∧ Seq1 P Γ ops m h' (x :: L1 ++ L2) (put o.dst v σ) fun σ h => ∃ σ', Eqv σ σ' ∧ K σ' h := fun e1 e2 q1 q2 q3 => by
        subst e1; subst e2; subst b5
        exact ⟨_, _, Stp.mkA hao ⟨k, row, Nat.le_trans hmn b1, rfl, b3, b4, rfl, b6⟩, fun e => (by rw [w1] at e; cases e), vx, _, n, Stp.mk1 q3 q1, ⟨fun _ => rfl, q2⟩, hmn, fin k3⟩
      have hal := (isAl_al hao).1
      rcases a4 with ⟨q1, q2⟩ | q1 | q1 | ⟨q1, q2⟩ | ⟨q1, q2⟩ | q1 | q1 | ⟨q1, q2⟩ | ⟨q1, q2⟩
      · rw [w1] at q1; cases q1
      · rw [ins_al q1] at hal; cases hal
      · obtain ⟨e1, e2⟩ := (s2.no (isAl_no (ins_al q1))).ins q1
        subst e1
        exact stay rfl rfl (e2 _) (CalK.no (ins_cal q1)) (isAl_no (ins_al q1))
      · rw [rd_al q1] at hal; cases hal
      · rw [apd_al q1] at hal; cases hal
      · rw [(ldst_al q1).1] at hal; cases hal
      · rw [(ldst_al q1).2.1] at hal; cases hal
      · rcases q2 with q2 | q2
        · have e1 := h2 (rd_wr q2)
          subst e1
          exact stay rfl rfl ((s2.no (isAl_no (rd_al q2))).rdP q2 b3) (CalK.no (rd_cal q2)) (isAl_no (rd_al q2))
        · have e1 := h2 (cal_wr q2)
          have hna : ¬ isAl x = true := fun e => by rw [(al_wr (isAl_al e).1).2] at q2; cases q2
          obtain ⟨h0, l0, c1, c2, c3⟩ := hC q2
          obtain ⟨l1, c4⟩ := putAt_prefix h0 l0 row (Nat.le_trans c1 b1)
          refine stay e1 rfl ?_ (fun _ => ?_) hna
          · rw [c2, c4]; exact c3 l1
          · rw [c2, c4]; exact ⟨h0, l1, c1, rfl, c3⟩
      · obtain ⟨k', row', d1, rfl, d3, d4, d5, d6⟩ := s2.al q2
        subst d5; subst b5
        obtain ⟨n1, n2⟩ := b3.of_put d4
        refine ⟨_, _, Stp.mkA hao ⟨k, row, Nat.le_trans hmn b1, rfl, n2, b4, rfl, b6⟩, fun e => (by rw [w1] at e; cases e), _, _, n, Stp.mkA q2 ⟨k', row', d1, rfl, isHole.put (fun e => n1 e.symm) d3, d4, rfl, d6⟩,
          ⟨fun e => (by rw [(al_wr (isAl_al q2).1).1] at e; cases e), CalK.no (al_wr (isAl_al q2).1).2⟩, hmn, ?_⟩
        rw [putAt_comm n1]
        exact fin k3
    · have s1 := s1.no hao
      by_cases hax : isAl x = true
      · obtain ⟨w1, w2⟩ := al_wr (isAl_al hax).1
        have hal := (isAl_al hax).1
        have hins : ins o.op = true := by
          rcases a4 with ⟨q1, q2⟩ | q1 | q1 | ⟨q1, q2⟩ | ⟨q1, q2⟩ | q1 | q1 | ⟨q1, q2⟩ | ⟨q1, q2⟩
          · rw [w1] at q2; cases q2
          · exact q1
          · rw [ins_al q1] at hal; cases hal
          · rw [apd_al q2] at hal; cases hal
          · rw [rd_al q2] at hal; cases hal
          · rw [(ldst_al q1).2.1] at hal; cases hal
          · rw [(ldst_al q1).1] at hal; cases hal
          · rcases q2 with q2 | q2
            · rw [rd_al q2] at hal; cases hal
            · rw [w2] at q2; cases q2
          · exact absurd q1 hao
        obtain ⟨e1, e2⟩ := s1.ins hins
        subst e1
        exact ⟨v, h, Stp.mk1 hao (e2 h), fun _ => rfl, vx, _, n, s2, ⟨h2, hC⟩, hmn, fin k3⟩
      · have s2 := s2.no hax
        have h1 := h1.no hax
        have mo : ∀ {h' : AH}, Step1 P Γ ops h o σ v h' → Stp P Γ ops m h o σ v h' := fun e => Stp.mk1 hao e
        have mx : ∀ {h1 h2 : AH}, Step1 P Γ ops h1 x (put o.dst v σ) vx h2 → Stp P Γ ops m h1 x (put o.dst v σ) vx h2 := fun e => Stp.mk1 hax e
        rcases a4 with ⟨w1, w2⟩ | w1 | w1 | ⟨w1, w2⟩ | ⟨w1, w2⟩ | w1 | w1 | ⟨w1, w2⟩ | ⟨w1, w2⟩
        · have e1 := h2 w2
          have e2 := k2 w1
          subst e1; subst e2
          exact ⟨v, _, mo s1, fun _ => rfl, vx, _, n, mx s2, ⟨fun _ => rfl, hC⟩, hmn, fin k3⟩
        · obtain ⟨e1, e2⟩ := s1.ins w1
          subst e1
          exact ⟨v, h, mo (e2 h), fun _ => rfl, vx, _, n, mx s2, ⟨h2, hC⟩, hmn, fin k3⟩
        · obtain ⟨e1, e2⟩ := s2.ins w1
          subst e1
          exact ⟨v, h', mo s1, k2, vx, _, n, mx (e2 h'), ⟨fun _ => rfl, CalK.no (ins_cal w1)⟩, hmn, fin k3⟩
        · have e1 := k2 (rd_wr w1)
          subst e1
          have hA := s2.apd w2
          exact ⟨v, h, mo (s1.rd w1 hA.symm), fun _ => rfl, vx, _, n, mx s2, ⟨h2, hC⟩, hmn, fin k3⟩
        · have e1 := h2 (rd_wr w2)
          subst e1
          have hA := s1.apd w1
          exact ⟨v, h', mo s1, k2, vx, _, n, mx (s2.rd w2 hA), ⟨fun _ => rfl, CalK.no (rd_cal w2)⟩, hmn, fin k3⟩
        · have hw : wr o.op = false := by obtain ⟨t, s, t', s', z, e1, _⟩ := ldst_of w1; rw [e1]; rfl
          have e1 := k2 hw
          subst e1
          exact ⟨v, h, mo (Step1.ldst w1 hsep h1 (.inr ⟨rfl, rfl⟩) s1), fun _ => rfl, vx, _, n, mx s2, ⟨h2, hC⟩, hmn, fin k3⟩
        · have hw : wr x.op = false := by obtain ⟨t, s, t', s', z, e1, _⟩ := ldst_of w1; rw [e1]; rfl
          have e1 := h2 hw
          subst e1
          have s3 : Step1 P Γ ops h' x σ vx h' := Step1.ldst w1 hsep s1 (.inl ⟨rfl, rfl⟩) h1
          refine ⟨v, h', mo s1, k2, vx, _, n, mx (s3.same fun t ht => (lk_put_other fun y hy e => a1 y hy (e ▸ ht)).symm), ⟨fun _ => rfl, CalK.no ?_⟩, hmn, fin k3⟩
          obtain ⟨t, s, t', s', z, e1, _⟩ := ldst_of w1; rw [e1]; rfl
        · have hw : wr x.op = false := by
            rcases w2 with w2 | w2
            · exact rd_wr w2
            · exact cal_wr w2
          have e1 := h2 hw
          subst e1
          obtain ⟨l, rfl⟩ := s1.al w1
          rcases w2 with w2 | w2
          · exact ⟨v, _, mo s1, k2, vx, _, n, mx (s2.rdL w2 l), ⟨fun _ => rfl, CalK.no (rd_cal w2)⟩, hmn, fin k3⟩
          · obtain ⟨h0, l0, c1, c2, c3⟩ := hC w2
            refine ⟨v, _, mo s1, k2, vx, _, n, mx ?_, ⟨fun _ => rfl, fun _ => ⟨h0, l0 ++ l, c1, by rw [c2, List.append_assoc], c3⟩⟩, hmn, fin k3⟩
            rw [c2, List.append_assoc]
            exact c3 _
        · exact absurd w1 hao
end
end Go.Abs

/- Regions that draw their order of evaluation: whatever the order, what they leave is the same. It says nothing of any program; no conditions. -/
set_option linter.unusedSimpArgs false
set_option linter.unusedVariables false
namespace Go.Abs
open Go Go.RowKit

def foldB (b : Array Nat) (after : Array Edge) : Nat := after.toList.foldl (fun s e => if Region.binds .any e then s ||| 2 ^ e.on ||| b.getD e.on 0 else s) 0

/-- What is looked at ahead of a region that draws its order: who comes behind whom is closed; who has no order does not meddle with the other's names. -/
def drawOK (ops : Array Oper) : Bool :=
  let b := Region.before ops
  let ol := ops.toList
  ol.zipIdx.all fun p => b.getD p.2 0 == foldB b p.1.after && (p.1.after.toList.all fun e => !Region.binds .any e || Nat.blt e.on p.2) &&
    (ol.take p.2).zipIdx.all fun q => (b.getD p.2 0).testBit q.2 || apart1 ol p.1 q.1

theorem foldB_aux (b : Array Nat) (j : Nat) : ∀ (l : List Edge) (s : Nat), (l.foldl (fun s e => if Region.binds .any e then s ||| 2 ^ e.on ||| b.getD e.on 0 else s) s).testBit j = true →
    s.testBit j = true ∨ ∃ e ∈ l, Region.binds .any e = true ∧ (e.on = j ∨ (b.getD e.on 0).testBit j = true)
  | [], s, H => .inl H
  | e :: l, s, H => by
    rw [List.foldl_cons] at H
    rcases foldB_aux b j l _ H with h1 | ⟨e', k1, k2⟩
    · split at h1
      · rename_i hb
        rw [Nat.testBit_or, Nat.testBit_or, Bool.or_eq_true, Bool.or_eq_true, Nat.testBit_two_pow] at h1
        rcases h1 with (h1 | h1) | h1
        · exact .inl h1
        · exact .inr ⟨e, List.mem_cons_self .., hb, .inl (by simpa using h1)⟩
        · exact .inr ⟨e, List.mem_cons_self .., hb, .inr h1⟩
      · exact .inl h1
    · exact .inr ⟨e', List.mem_cons_of_mem _ k1, k2⟩

section
variable {P : Program} {Γ : Nat → Option (List AV)} {G : Gh} {h : AH} {w : World} {N : Nat} {σ σ' : Tm} {Q : Exit → Tm → AH → Prop} {ops : Array Oper}

theorem drawOK_at (hd : drawOK ops = true) {i : Nat} {o : Oper} (ho : ops[i]? = some o) :
    (Region.before ops).getD i 0 = foldB (Region.before ops) o.after ∧ (∀ e ∈ o.after, Region.binds .any e = true → e.on < i) ∧
    ∀ (j : Nat) (x : Oper), j < i → ops[j]? = some x → ((Region.before ops).getD i 0).testBit j = false → apart1 ops.toList o x = true := by
  unfold drawOK at hd
  have hmem : (o, i) ∈ ops.toList.zipIdx := by
    rw [List.mem_zipIdx_iff_getElem?]; simpa using ho
  have h1 := List.all_eq_true.1 hd _ hmem
  simp only [Bool.and_eq_true, beq_iff_eq] at h1
  obtain ⟨⟨h1, h2⟩, h3⟩ := h1
  refine ⟨h1, fun e he hb => ?_, fun j x hj hx hn => ?_⟩
  · have := List.all_eq_true.1 h2 e (by simpa using he)
    simp only [hb, Bool.not_true, Bool.false_or] at this
    exact Nat.le_of_ble_eq_true this
  · have hm : (x, j) ∈ (ops.toList.take i).zipIdx := by
      rw [List.mem_zipIdx_iff_getElem?, List.getElem?_take, if_pos hj]; simpa using hx
    have := List.all_eq_true.1 h3 _ hm
    simp only [hn, Bool.false_or] at this
    exact this

/-- What is still to be done. -/
def rem (ops : Array Oper) (listed : Array Bool) : List Nat := (List.range ops.size).filter fun i => !listed.getD i true

theorem mem_rem {listed : Array Bool} {i : Nat} : i ∈ rem ops listed ↔ i < ops.size ∧ listed.getD i true = false := by
  unfold rem; rw [List.mem_filter, List.mem_range]; simp

theorem rem_lt (listed : Array Bool) : (rem ops listed).Pairwise (· < ·) := List.Pairwise.filter _ List.pairwise_lt_range

theorem getD_set_self {listed : Array Bool} {i : Nat} (hi : i < listed.size) (d : Bool) : (listed.setIfInBounds i true).getD i d = true := by
  simp [Array.getD_eq_getD_getElem?, hi]
theorem getD_set_other {listed : Array Bool} {i j : Nat} (hij : i ≠ j) (d : Bool) : (listed.setIfInBounds i true).getD j d = listed.getD j d := by
  simp [Array.getD_eq_getD_getElem?, hij]

theorem rem_set {listed : Array Bool} {i : Nat} (hs : listed.size = ops.size) (hi : i ∈ rem ops listed) : ∃ L1 L2, rem ops listed = L1 ++ i :: L2 ∧ rem ops (listed.setIfInBounds i true) = L1 ++ L2 ∧ ∀ j ∈ L1, j < i ∧ listed.getD j true = false := by
  obtain ⟨L1, L2, e⟩ := List.append_of_mem hi
  have hp := rem_lt (ops := ops) listed
  rw [e] at hp
  have hp' := List.pairwise_append.1 hp
  have h1 : ∀ j ∈ L1, j < i := fun j hj => hp'.2.2 j hj i (List.mem_cons_self ..)
  have h2 : ∀ j ∈ L2, i < j := (List.pairwise_cons.1 hp'.2.1).1
  refine ⟨L1, L2, e, ?_, fun j hj => ⟨h1 j hj, (mem_rem.1 (e ▸ List.mem_append_left _ hj)).2⟩⟩
  have hil : i < listed.size := by rw [hs]; exact (mem_rem.1 hi).1
  have h3 : rem ops (listed.setIfInBounds i true) = (rem ops listed).filter fun j => decide (j ≠ i) := by
    unfold rem
    rw [List.filter_filter]
    refine List.filter_congr fun j _ => ?_
    by_cases hj : j = i
    · subst hj; rw [getD_set_self hil]; simp
    · rw [getD_set_other (fun e => hj e.symm)]; simp [hj]
  rw [h3, e, List.filter_append, List.filter_cons_of_neg (by simp), List.filter_eq_self.2 fun j hj => by have := h1 j hj; simp; omega, List.filter_eq_self.2 fun j hj => by have := h2 j hj; simp; omega]

def ClosedL (ops : Array Oper) (listed : Array Bool) : Prop := ∀ i, i < ops.size → listed.getD i true = true → ∀ j, j < ops.size → ((Region.before ops).getD i 0).testBit j = true → listed.getD j true = true

theorem getD_ff {listed : Array Bool} {i : Nat} (hi : i < listed.size) : listed.getD i false = listed.getD i true := by
  simp [Array.getD_eq_getD_getElem?, Array.getElem?_eq_getElem hi]

/-- **A new own object at a place that nobody has yet.** -/
theorem Inv.allocAt (hI : Inv Γ G h w) (o : Obj) (ob : AObj) {k : Nat} (hk : isHole h[k]?) (hob : ObjR (G.add k w.heap.size) (w.alloc o) k ob) :
    G.le (G.add k w.heap.size) ∧ Inv Γ (G.add k w.heap.size) (putAt h k ob) (w.alloc o) := by
  have hno : G.ρ k = none := by
    rcases hk with hk | hk
    · cases hc : G.ρ k with
      | none => rfl
      | some b => have := hI.domρ k b hc; rw [List.getElem?_eq_none_iff] at hk; omega
    · exact (hI.obj k _ hk).1
  have hle : G.le (G.add k w.heap.size) :=
    ⟨rfl, fun i c e => by simp only [Gh.add]; rw [if_neg (fun e' => by subst e'; rw [hno] at e; cases e)]; exact e, fun _ _ _ e => e, fun _ r e => ⟨r, e, Nat.le_refl _, fun _ => rfl⟩, fun _ _ e => e, fun _ e => e, fun b _ e _ => ⟨b, e⟩⟩
  refine ⟨hle, ?_⟩
  have hI' := hI.alloc_any o
  have hlen : (putAt h k ob).length = max h.length (k + 1) := by unfold putAt; simp; omega
  have hρ : ∀ i b, (G.add k w.heap.size).ρ i = some b → (i = k ∧ b = w.heap.size) ∨ (i ≠ k ∧ G.ρ i = some b) := fun i b e => by
    simp only [Gh.add] at e
    split at e
    · rename_i hi; cases e; exact .inl ⟨hi, rfl⟩
    · rename_i hi; exact .inr ⟨hi, e⟩
  have hρn : ∀ i, i ≠ k → (G.add k w.heap.size).ρ i = G.ρ i := fun i e => by simp only [Gh.add]; rw [if_neg e]
  exact {
    below := hI'.below
    drw := hI'.drw
    fix := hI'.fix
    obj := fun i ob' e => by
      rw [putAt_get] at e
      split at e
      · rename_i hi; subst hi; cases e; exact hob
      · rename_i hi
        split at e
        · exact (hI'.obj i ob' e).mono hle (fun _ _ => rfl) (fun _ h => h) (fun h => ⟨(hρn i hi).trans h.1, h.2⟩)
        · rename_i hlt
          split at e
          · cases e
            refine ⟨(hρn i hi).trans ?_, ?_⟩
            · cases hc : G.ρ i with
              | none => rfl
              | some b => have := hI.domρ i b hc; omega
            · show G.ar i = none
              cases hc : G.ar i with
              | none => rfl
              | some b => have := hI.domA i b hc; omega
          · cases e
    domρ := fun i b e => by
      rw [hlen]
      rcases hρ i b e with ⟨h1, _⟩ | ⟨_, h2⟩
      · omega
      · have := hI.domρ i b h2; omega
    domA := fun i r e => by have := hI.domA i r e; rw [hlen]; omega
    inj := fun i j b e e' => by
      rcases hρ i b e with ⟨h1, h2⟩ | ⟨h1, h2⟩ <;> rcases hρ j b e' with ⟨k1, k2⟩ | ⟨k1, k2⟩
      · omega
      · have := (hI.base j b k2).2; omega
      · have := (hI.base i b h2).2; omega
      · exact hI.inj i j b h2 k2
    base := fun i b e => by
      rcases hρ i b e with ⟨h1, h2⟩ | ⟨h1, h2⟩
      · subst h2; exact ⟨hI.below.size, by simp⟩
      · have := hI.base i b h2; exact ⟨this.1, by simp; omega⟩
    sep := fun i b o v hf e e' => by
      rcases hρ i b e with ⟨h1, h2⟩ | ⟨h1, h2⟩
      · have := hI.F_lt (show G.F b o = some v from e'); omega
      · exact hI.sep i b o v (fun e'' => hf (by rw [putAt_get, if_neg h1, if_pos (hI.domρ i b h2)]; exact e'')) h2 e'
    arB := fun i r b c sz T e e' => (hI'.arB i r b c sz T e e').mono (G' := G.add k w.heap.size) rfl rfl (fun _ _ h => h) (fun j ej => by
      rcases hρ j b ej with ⟨_, h2⟩ | ⟨_, h2⟩
      · have := hI.ar_lt (show G.ar i = some r from e) e'; omega
      · exact h2)
    arI := hI'.arI
    lp := hI'.lp
    lpB := hI'.lpB
    dsI := hI'.dsI
    glob := fun g cs e => (hI'.glob g cs e).mono hle }

theorem AlStep.ok {m : Nat} {o : Oper} {v : AV} {h' : AH} (hI : Inv Γ G h w) {a : Act} (ht : TR N G σ a.tmps) (hi : al o.op = true) (H : AlStep P Γ m h o σ v h') {r : Option Nat} {next : Act → World → Prop} {Q' : Exit → Act → World → Prop}
    (hn : ∀ u G' w', G.le G' → Inv Γ G' h' w' → VR G' v u → next (a.put o.dst u) w') : o.wpIn (Fr r) 0 P a w next Q' := by
  obtain ⟨k, row, _, rfl, hk, _, rfl, H⟩ := H
  have main : ∀ {cs : List AV} {vals : Array Value} {t : TypeId}, VRs G cs vals → row = .row cs t → ∃ u w' G', G.le G' ∧ Inv Γ G' (putAt h k row) w' ∧ VR G' (.ptr (some (k, 0))) u ∧ u = .pointer (some ⟨w.heap.size, 0, none⟩) ∧ w' = w.alloc (.cells vals t) := fun {cs vals t} hv e => by
    subst e
    have hno : G.ρ k = none := by
      rcases hk with hk | hk
      · cases hc : G.ρ k with
        | none => rfl
        | some b => have := hI.domρ k b hc; rw [List.getElem?_eq_none_iff] at hk; omega
      · exact (hI.obj k _ hk).1
    have hle : G.le (G.add k w.heap.size) :=
      ⟨rfl, fun i c e => by simp only [Gh.add]; rw [if_neg (fun e' => by subst e'; rw [hno] at e; cases e)]; exact e, fun _ _ _ e => e, fun _ r e => ⟨r, e, Nat.le_refl _, fun _ => rfl⟩, fun _ _ e => e, fun _ e => e, fun b _ e _ => ⟨b, e⟩⟩
    obtain ⟨k1, k2⟩ := hI.allocAt (.cells vals t) (.row cs t) hk ⟨w.heap.size, vals, Gh.add_same _ _ _, heap_alloc_new w _, hv.mono hle⟩
    exact ⟨_, _, _, k1, k2, .ptr (Gh.add_same _ _ _), rfl, rfl⟩
  refine ⟨fun _ _ => trivial, ?_⟩
  show o.uponIn (Fr r) 0 P a next Q' ((o.semAt r a.eval).run P w)
  unfold DetV aOper0 at H
  unfold Abs.al at hi
  split at hi
  · rename_i t hc
    rw [hc] at H
    simp only [aop] at H
    rw [semAt_ok r a.eval o (fun c' e => by rw [hc] at e; cases e)]
    unfold aAlloc at H
    split at H
    · rename_i z hz
      obtain ⟨u, w', G', k1, k2, k3, rfl, rfl⟩ := main (ofV1s_VR G z.cells) (by have := H.2; simpa using this.symm)
      have hrun : (execOp a.eval o).run P w = .ok (.value (.pointer (some ⟨w.heap.size, 0, none⟩))) (w.alloc (.cells z.cells t)) := by
        simp [execOp, hc, Instr.alloc, run_zero' hz, newVar, newRow]
      rw [hrun]
      exact hn _ _ _ k1 k2 k3
    · exact H.elim
  · rename_i t x hc
    rw [hc] at H
    simp only [aop] at H
    rw [semAt_ok r a.eval o (fun c' e => by rw [hc] at e; cases e)]
    unfold aBox at H
    have hv := (ev_VR hI ht x).cells (AV.good_cells H.1).2
    obtain ⟨u, w', G', k1, k2, k3, rfl, rfl⟩ := main hv (by have := H.2.2; simpa using this.symm)
    have hrun : (execOp a.eval o).run P w = .ok (.value (.pointer (some ⟨w.heap.size, 0, none⟩))) (w.alloc (.cells (a.eval x).cells t)) := by
      simp [execOp, hc, Instr.box, newVar, newRow]
    rw [hrun]
    exact hn _ _ _ k1 k2 k3
  · cases hi

theorem any_ok (hd : drawOK ops = true) (hN : dstOK N ops = true) {K : Tm → AH → Prop} (hK : ∀ σ σ' h, Eqv σ σ' → K σ' h → K σ h) {G0 : Gh} {ds : List Deferred} {r : Option Nat} :
    ∀ (fuel : Nat) (listed : Array Bool) (a : Act) (w : World) (G : Gh) (σ : Tm) (h : AH), listed.size = ops.size → ClosedL ops listed → (rem ops listed).length ≤ fuel → G0.le G → Inv Γ G h w → TR N G σ a.tmps → a.defers = ds → Sep σ (seps ops.toList) →
      (∃ m, Seq1 P Γ ops.toList m h ((rem ops listed).filterMap (ops[·]?)) σ K) → wpAnyIn (Fr r) 0 P .any ops (Post Γ N G0 ds (thenA K fun _ _ _ => False)) fuel listed a w := by
  have hdst : ∀ (i : Nat) (o : Oper), ops[i]? = some o → ∀ x, o.dst = some x → x < N := fun i o ho x hx => by
    have := List.all_eq_true.1 hN o (by simpa using Array.mem_of_getElem? ho)
    rw [hx] at this
    exact Nat.le_of_ble_eq_true this
  have hrr : ∀ {listed : Array Bool} {i : Nat}, listed.size = ops.size → i ∈ Region.ready .any ops listed → i ∈ rem ops listed := fun hs hi => by
    obtain ⟨h0, o, ho, _⟩ := mem_ready.1 hi
    exact mem_rem.2 ⟨(Array.getElem?_eq_some_iff.1 ho).1, h0⟩
  have hleast : ∀ {listed : Array Bool}, listed.size = ops.size → rem ops listed ≠ [] → Region.ready .any ops listed ≠ [] := fun {listed} hs hne hr => by
    cases hl : rem ops listed with
    | nil => exact hne hl
    | cons m L =>
      obtain ⟨hm1, hm2⟩ := mem_rem.1 (show m ∈ rem ops listed by rw [hl]; exact List.mem_cons_self ..)
      have hmin : ∀ j ∈ rem ops listed, m ≤ j := fun j hj => by
        have hp := rem_lt (ops := ops) listed
        rw [hl] at hp hj
        rcases List.mem_cons.1 hj with rfl | hj
        · exact Nat.le_refl _
        · exact Nat.le_of_lt ((List.pairwise_cons.1 hp).1 j hj)
      have : m ∈ Region.ready .any ops listed := mem_ready.2 ⟨hm2, ops[m], Array.getElem?_eq_getElem hm1, fun e he hb => by
        have hlt := (drawOK_at hd (Array.getElem?_eq_getElem hm1)).2.1 e he hb
        rw [getD_ff (by rw [hs]; omega)]
        cases hx : listed.getD e.on true with
        | true => rfl
        | false => have := hmin e.on (mem_rem.2 ⟨by omega, hx⟩); omega⟩
      rw [hr] at this; cases this
  have done : ∀ (listed : Array Bool) (a : Act) (w : World) (G : Gh) (σ : Tm) (h : AH), rem ops listed = [] → G0.le G → Inv Γ G h w → TR N G σ a.tmps → a.defers = ds →
      (∃ m, Seq1 P Γ ops.toList m h ((rem ops listed).filterMap (ops[·]?)) σ K) → Post Γ N G0 ds (thenA K fun _ _ _ => False) .normal a w := fun listed a w G σ h hr hle hI ht had H => by
    obtain ⟨m, H⟩ := H
    rw [hr] at H
    exact ⟨G, σ, h, [], hle, hI, ht, by simpa using had, fun D hD => by simp at hD, List.nodup_nil, H⟩
  intro fuel
  induction fuel with
  | zero =>
    intro listed a w G σ h hs hc hf hle hI ht had hsp H
    have hr : rem ops listed = [] := List.length_eq_zero_iff.1 (by omega)
    refine ⟨?_, done listed a w G σ h hr hle hI ht had H⟩
    cases hx : Region.ready .any ops listed with
    | nil => rfl
    | cons i _ => have := hrr hs (show i ∈ Region.ready .any ops listed by rw [hx]; exact List.mem_cons_self ..); rw [hr] at this; cases this
  | succ fuel ih =>
    intro listed a w G σ h hs hc hf hle hI ht had hsp H
    refine ⟨fun hr => done listed a w G σ h ?_ hle hI ht had H, fun i hi => ?_⟩
    · exact Classical.byContradiction fun hne => hleast hs hne hr
    · have him := hrr hs hi
      obtain ⟨hi0, o, ho, hedges⟩ := mem_ready.1 hi
      obtain ⟨L1, L2, e1, e2, e3⟩ := rem_set hs him
      obtain ⟨hb1, hb2, hb3⟩ := drawOK_at hd ho
      have hil : i < ops.size := (Array.getElem?_eq_some_iff.1 ho).1
      have hpre : ∀ j, j < ops.size → ((Region.before ops).getD i 0).testBit j = true → listed.getD j true = true := fun j hj hbit => by
        rw [hb1] at hbit
        rcases foldB_aux _ j _ _ hbit with h0 | ⟨e, he, hbd, hor⟩
        · simp at h0
        · have hel := hedges e (by simpa using he) hbd
          have helt := hb2 e (by simpa using he) hbd
          rw [getD_ff (by omega)] at hel
          rcases hor with rfl | hor
          · exact hel
          · exact hc e.on (by omega) hel j hj hor
      have hc' : ClosedL ops (listed.setIfInBounds i true) := fun k hk hkl j hj hbit => by
        by_cases hji : j = i
        · subst hji; exact getD_set_self (by omega) _
        · rw [getD_set_other (fun e => hji e.symm)]
          by_cases hki : k = i
          · subst hki; exact hpre j hj hbit
          · rw [getD_set_other (fun e => hki e.symm)] at hkl
            exact hc k hk hkl j hj hbit
      obtain ⟨m, H⟩ := H
      rw [e1, List.filterMap_append, List.filterMap_cons, ho] at H
      simp only at H
      have hap : ∀ x ∈ L1.filterMap (ops[·]?), apart1 ops.toList o x = true ∧ x ∈ ops.toList := fun x hx => by
        obtain ⟨j, hj, hjx⟩ := List.mem_filterMap.1 hx
        obtain ⟨j1, j2⟩ := e3 j hj
        refine ⟨?_, by simpa using Array.mem_of_getElem? hjx⟩
        refine hb3 j x j1 hjx ?_
        cases hbit : ((Region.before ops).getD i 0).testBit j with
        | false => rfl
        | true => rw [hpre j (by omega) hbit] at j2; cases j2
      obtain ⟨v, h2, s1, _, s2⟩ := Seq1.pull _ _ _ _ hap hsp H
      have s3 := Seq1.mono _ _ _ _ (fun σ h (k : ∃ σ', Eqv σ σ' ∧ K σ' h) => by obtain ⟨σ', k1, k2⟩ := k; exact hK _ _ _ k1 k2) s2
      rw [← List.filterMap_append, ← e2] at s3
      have hf' : (rem ops (listed.setIfInBounds i true)).length ≤ fuel := by rw [e1] at hf; rw [e2]; simp at hf ⊢; omega
      have hdo := hdst i o ho
      have hsp' : ∀ v', Sep (put o.dst v' σ) (seps ops.toList) := fun v' => hsp.put (by simpa using Array.mem_of_getElem? ho)
      unfold wpOpIn
      simp only [ho]
      have run : DetV P Γ o σ h v h2 → o.wpIn (Fr r) 0 P a w (wpAnyIn (Fr r) 0 P .any ops (Post Γ N G0 ds (thenA K fun _ _ _ => False)) fuel (listed.setIfInBounds i true)) (Post Γ N G0 ds (thenA K fun _ _ _ => False)) := fun H =>
        aOper0_ok hI ht H fun u v' G' h' w' k1 k2 k3 k4 => by
          obtain ⟨rfl, rfl⟩ := k4
          exact ih _ _ w' G' _ _ (by simpa using hs) hc' hf' (hle.trans k1) k2 ((ht.mono k1).put hdo k3) ((put_defers a o.dst u).trans had) (hsp' _) ⟨m, s3⟩
      by_cases hal : isAl o = true
      · obtain ⟨ha1, ha2⟩ := isAl_al hal
        unfold Region.wanted
        simp only [ha2, if_true]
        exact (s1.al hal).ok hI ht ha1 fun u G' w' k1 k2 k3 =>
          ih _ _ w' G' _ _ (by simpa using hs) hc' hf' (hle.trans k1) k2 ((ht.mono k1).put hdo k3) ((put_defers a o.dst u).trans had) (hsp' _) ⟨m, s3⟩
      have s1 := s1.no hal
      unfold Step1 at s1
      unfold Region.wanted
      split at s1
      · rename_i hg
        simp only [hg, if_true]
        exact run s1
      · rename_i j want hg
        simp only [hg]
        obtain ⟨t, b, hj, hb, hor⟩ := s1
        rw [dstAt_eq, Array.getElem?_toList] at hj
        rw [yielded_gv ht hj hb]
        rcases hor with ⟨rfl, hv⟩ | ⟨hbn, rfl, rfl⟩
        · simp only [beq_self_eq_true, if_true]; exact run hv
        · have : (b == some want) = false := by simpa using hbn
          simp only [this, Bool.false_eq_true, if_false]
          exact ⟨fun _ _ => trivial, ih _ _ w G _ _ (by simpa using hs) hc' hf' hle hI (ht.put hdo (VR.undef G)) ((put_defers a o.dst undef).trans had) (hsp' _) ⟨m, s3⟩⟩

theorem rem_all : Abs.rem ops (Array.replicate ops.size false) = List.range ops.size := by
  unfold rem
  refine List.filter_eq_self.2 fun i hi => ?_
  have : i < ops.size := List.mem_range.1 hi
  simp [Array.getD_eq_getD_getElem?, this]

/-- **A region that draws its order.** -/
theorem awp_draw {id : Nat} (hm : P.follows .mixedOrders = true) (hd : drawOK ops = true) (hN : dstOK N ops = true) (hsp : Sep σ (seps ops.toList)) (H : aDets P Γ ops.toList (fun σ h => Q .normal σ h) ops.toList σ h) : AWP P Γ N (.region id ops true) Q σ h := fun r G w a hr hI ht => by
  have hs := aDets_seq _ 0 _ σ σ (Nat.zero_le _) (fun _ => rfl) H
  refine wpIn_mono (Q := Post Γ N G a.defers (thenA (fun σ h => ∃ σ3, Eqv σ σ3 ∧ Q .normal σ3 h) fun _ _ _ => False)) ?_ fun e a' w' hp => ?_
  · refine wpIn_region_any hm (any_ok (K := fun σ h => ∃ σ3, Eqv σ σ3 ∧ Q .normal σ3 h) hd hN (fun σ σ' h e ⟨σ3, k1, k2⟩ => ⟨σ3, fun i => (e i).trans (k1 i), k2⟩) ops.size _ a _ G σ h (by simp) (fun i hi hl => ?_) ?_ (Gh.le.refl G) ?_ ht rfl hsp ?_)
    · simp [Array.getD_eq_getD_getElem?, hi] at hl
    · rw [rem_all]; simp
    · exact hI.later (Nat.le_refl _) rfl rfl rfl (fun _ _ => rfl)
    · rw [rem_all, filterMap_range]; exact ⟨0, hs⟩
  · obtain ⟨G', σ', h', Ds, h1, h2, h3, h4, h5, h6, h7⟩ := hp
    cases e with
    | normal =>
      obtain ⟨σ3, k1, k2⟩ := h7
      exact ⟨G', σ3, h', Ds, h1, h2, ⟨h3.1, fun i => by rw [← k1 i]; exact h3.2 i⟩, h4, h5, h6, k2⟩
    | _ => exact h7.elim
end
end Go.Abs

/- A function's code reckoned as a whole, up to its loops; loops by states. It says nothing of any program; no conditions. -/
set_option linter.unusedSimpArgs false
set_option linter.unusedVariables false
namespace Go.Abs
open Go Go.RowKit

/-- Is there a loop in it? -/
def stops : Code → Bool
  | .loop _ => true
  | .rangeFunc _ _ _ _ => true
  | .scope _ => true
  | .seq x y => stops x || stops y
  | .cond _ x y => stops x || stops y
  | .block _ c => stops c
  | _ => false

def codeOK (N : Nat) : Code → Bool
  | .region _ ops d => dstOK N ops && (!d || drawOK ops)
  | .seq x y => codeOK N x && codeOK N y
  | .cond _ x y => codeOK N x && codeOK N y
  | .block _ c => codeOK N c
  | _ => true

def aCode (P : Program) (Γ : Nat → Option (List AV)) (N : Nat) : Code → (Exit → Tm → AH → Prop) → Tm → AH → Prop
  | .skip, Q, σ, h => Q .normal σ h
  | .label _, Q, σ, h => Q .normal σ h
  | .exit id, Q, σ, h => Q (.exit id) σ h
  | .goto l, Q, σ, h => Q (.goto l) σ h
  | .ret, Q, σ, h => Q .ret σ h
  | .region _ ops false, Q, σ, h => aOps P Γ ops.toList (Q .normal) ops.toList σ h
  | .region _ ops true, Q, σ, h => Sep σ (seps ops.toList) ∧ aDets P Γ ops.toList (Q .normal) ops.toList σ h
  | .seq x y, Q, σ, h => aCode P Γ N x (thenA (fun σ h => bif stops x then AWP P Γ N y Q σ h else aCode P Γ N y Q σ h) Q) σ h
  | .cond c x y, Q, σ, h => aBool (ev Γ σ c) true (aCode P Γ N x Q σ h) (aCode P Γ N y Q σ h)
  | .block id c, Q, σ, h => aCode P Γ N c (blockA id Q) σ h
  | c, Q, σ, h => AWP P Γ N c Q σ h

section
variable {P : Program} {Γ : Nat → Option (List AV)} {G : Gh} {h : AH} {w : World} {N : Nat} {σ σ' : Tm} {Q : Exit → Tm → AH → Prop}

theorem aCode_ok (hm : P.follows .mixedOrders = true) : ∀ (c : Code) (Q : Exit → Tm → AH → Prop) (σ : Tm) (h : AH), codeOK N c = true → aCode P Γ N c Q σ h → AWP P Γ N c Q σ h := by
  intro c
  induction c with
  | skip => exact fun Q σ h _ H => awp_skip H
  | label l => exact fun Q σ h _ H => awp_label H
  | exit id => exact fun Q σ h _ H => awp_exit H
  | goto l => exact fun Q σ h _ H => awp_goto H
  | ret => exact fun Q σ h _ H => awp_ret H
  | region id ops d =>
    intro Q σ h hc H
    simp only [codeOK, Bool.and_eq_true] at hc
    cases d with
    | false => exact awp_region hc.1 H
    | true => exact awp_draw hm (by simpa using hc.2) hc.1 H.1 H.2
  | seq x y ix iy =>
    intro Q σ h hc H
    simp only [codeOK, Bool.and_eq_true] at hc
    refine awp_seq ((ix _ σ h hc.1 H).mono fun e σ h he => ?_)
    cases e with
    | normal =>
      simp only [thenA] at he ⊢
      cases hs : stops x with
      | true => rw [hs] at he; exact he
      | false => rw [hs] at he; exact iy Q σ h hc.2 he
    | _ => exact he
  | cond b x y ix iy =>
    intro Q σ h hc H
    simp only [codeOK, Bool.and_eq_true] at hc
    obtain ⟨v, hv, h1, h2⟩ := aBool_inv H
    exact awp_cond hv (fun e => ix Q σ h hc.1 (h1 e)) (fun e => iy Q σ h hc.2 (h2 e))
  | block id c ic => exact fun Q σ h hc H => awp_block (ic _ σ h hc H)
  | loop c _ => exact fun Q σ h _ H => H
  | rangeFunc f ps a b _ _ => exact fun Q σ h _ H => H
  | scope c _ => exact fun Q σ h _ H => H
  | refuse s => exact fun Q σ h _ H => H

/-- How a loop's round is left: off its end: in a state of a lesser measure. -/
def roundS {α : Type} (L : List Nat) (st : α → Tm) (hp : α → AH) (inv : α → Prop) (μ : α → Nat) (x : α) (Q : Exit → Tm → AH → Prop) : Exit → Tm → AH → Prop
  | .normal, σ, h => ∃ y, μ y < μ x ∧ inv y ∧ Wkt (keep L σ) (st y) ∧ h = hp y
  | e, σ, h => Q e σ h

/-- **A loop, by its states.** -/
theorem awp_loopS {α : Type} {c : Code} (L : List Nat) (st : α → Tm) (hp : α → AH) (inv : α → Prop) (μ : α → Nat) (x0 : α) (h1 : keep L σ = st x0) (h2 : h = hp x0) (h3 : inv x0)
    (hm : P.follows .mixedOrders = true) (hc : codeOK N c = true) (H : ∀ x, inv x → aCode P Γ N c (roundS L st hp inv μ x Q) (st x) (hp x)) : AWP P Γ N (.loop c) Q σ h := by
  refine awp_loop (fun n σ h => ∃ x, n = μ x ∧ inv x ∧ Wkt (keep L σ) (st x) ∧ h = hp x) ⟨x0, rfl, h3, .of_eq h1, h2⟩ fun n σ h hx => ?_
  obtain ⟨x, rfl, hi, hs, rfl⟩ := hx
  refine AWP.keep L (AWP.wks ?_ hs)
  refine (aCode_ok hm c _ _ _ hc (H x hi)).mono fun e σ h he => ?_
  cases e with
  | normal => obtain ⟨y, k1, k2, k3, k4⟩ := he; exact ⟨μ y, k1, y, rfl, k2, k3, k4⟩
  | _ => exact he

/-- **A function's contract from the reckoning of its code.** -/
theorem acalls_code {f : FuncId} {fn : Func} {c : Code} {args : List AV} {rs : List ResultVar} {R : AV → AH → Prop} (hf : P.funcs[f]? = some fn) (hb : fn.body = some c) (hn : (fn.name == "runtime.NumGoroutine") = false)
    (hN : Nat.ble args.length fn.ntmps = true) (hrs : fn.results = rs.toArray) (hm : P.follows .mixedOrders = true) (hc : codeOK fn.ntmps c = true) (H : aCode P Γ fn.ntmps c (endA P rs R) (argsT 0 args) h) : ACalls P Γ f args h R :=
  acalls_of_awp hf hb hn hN hrs (aCode_ok hm c _ _ _ hc H)
end
end Go.Abs

/- A region that draws its order, one operation of it being ordered with all others: that one may do what it likes. It says nothing of any program; no conditions. -/
set_option linter.unusedSimpArgs false
set_option linter.unusedVariables false
namespace Go.Abs
open Go Go.RowKit

/-- All operations ahead are before this one, and it is before all that come behind. -/
def barOK (ops : Array Oper) (c : Nat) : Bool :=
  (List.range ops.size).all fun i => i == c || (if i < c then ((Region.before ops).getD c 0).testBit i else ((Region.before ops).getD i 0).testBit c)

section
variable {P : Program} {Γ : Nat → Option (List AV)} {G : Gh} {h : AH} {w : World} {N : Nat} {σ σ' : Tm} {Q : Exit → Tm → AH → Prop} {ops : Array Oper}

theorem barOK_at {c : Nat} (hB : barOK ops c = true) {i : Nat} (hi : i < ops.size) : (i < c → ((Region.before ops).getD c 0).testBit i = true) ∧ (c < i → ((Region.before ops).getD i 0).testBit c = true) := by
  have := List.all_eq_true.1 hB i (List.mem_range.2 hi)
  rw [Bool.or_eq_true, beq_iff_eq] at this
  constructor
  · intro h
    rcases this with e | e
    · omega
    · rwa [if_pos h] at e
  · intro h
    rcases this with e | e
    · omega
    · rwa [if_neg (by omega)] at e
theorem Sep.eqv : ∀ {l : List (Nat × Nat)}, Eqv σ σ' → Sep σ l → Sep σ' l
  | [], _, _ => trivial
  | (s, s') :: l, e, H => ⟨by have := H.1; rwa [e s, e s'] at this, Sep.eqv e H.2⟩
theorem Eqv.same {t : Nat} {v : AV} (e : lk σ t = v) : Eqv σ ((t, v) :: σ) := fun i => by
  simp only [lk]
  split
  · rename_i hi; subst hi; exact e
  · rfl
theorem TR.eqv {a : Act} (e : Eqv σ σ') (ht : TR N G σ a.tmps) : TR N G σ' a.tmps := ⟨ht.1, fun i => by rw [← e i]; exact ht.2 i⟩

theorem filterMap_cg {α β : Type} {f g : α → Option β} : ∀ {l : List α}, (∀ x ∈ l, f x = g x) → l.filterMap f = l.filterMap g
  | [], _ => rfl
  | x :: l, h => by rw [List.filterMap_cons, List.filterMap_cons, h x (List.mem_cons_self ..), filterMap_cg (l := l) fun y hy => h y (List.mem_cons_of_mem _ hy)]
theorem range_take {α : Type} (l : List α) (c : Nat) (hc : c ≤ l.length) : ((List.range l.length).filter (· < c)).filterMap (fun i => l[i]?) = l.take c := by
  have h1 : (List.range l.length).filter (· < c) = List.range c := by
    obtain ⟨d, e⟩ : ∃ d, l.length = c + d := ⟨l.length - c, by omega⟩
    rw [e, List.range_add, List.filter_append, List.filter_eq_self.2 fun j hj => by simpa using List.mem_range.1 hj, List.filter_eq_nil_iff.2 fun j hj => by
      obtain ⟨k, _, rfl⟩ := List.mem_map.1 hj; simp, List.append_nil]
  rw [h1]
  have := filterMap_idx (l.take c)
  rw [List.length_take, Nat.min_eq_left hc] at this
  rw [← this]
  refine filterMap_cg fun i hi => ?_
  rw [List.getElem?_take, if_pos (List.mem_range.1 hi)]
/-- What comes behind the operation; the operation, and what comes behind it. -/
def barL (P : Program) (Γ : Nat → Option (List AV)) (ops post : List Oper) (Q : Exit → Tm → AH → Prop) (σ : Tm) (h : AH) : Prop := aDets P Γ ops (Q .normal) post σ h
def barK (P : Program) (Γ : Nat → Option (List AV)) (ops : List Oper) (o : Oper) (post : List Oper) (Q : Exit → Tm → AH → Prop) (σ : Tm) (h : AH) : Prop := aOps P Γ ops (barL P Γ ops post Q) [o] σ h
@[go_sem] theorem barL_eq (ops post : List Oper) : barL P Γ ops post Q σ h = aDets P Γ ops (Q .normal) post σ h := (rfl)
@[go_sem] theorem barK_eq (ops : List Oper) (o : Oper) (post : List Oper) : barK P Γ ops o post Q σ h = aOps P Γ ops (barL P Γ ops post Q) [o] σ h := (rfl)
end
end Go.Abs
