/- Texts joined: UnM. No conditions. -/
import Derived.Test.YtjdhgaflenhljaaDoorMrHI
/- The law More. No conditions. -/
set_option linter.unusedSimpArgs false
set_option linter.unusedVariables false
namespace Go.Proofs.YtjdhgaflenhljaaDoor
open Go Go.Proofs Go.Abs

theorem ACalls.ofFreeze {P : Program} {Γ : Nat → Option (List AV)} {f : FuncId} {args : List AV} {h h3 : AH} {R : AV → AH → Prop} {i : Nat} {cs : List AV} {T : TypeId} (hi : h[i]? = some (.row cs T)) (hf : Froze i cs h h3) (H : ACalls P Γ f (args.map (fzV i cs)) h3 R) : ACalls P Γ f args h R :=
  ⟨H.1, fun G w vs hI hv => by
    obtain ⟨b, vals, q1, q2, q3⟩ := hI.freeze hi hf
    refine (H.2 _ w vs q2 ⟨by simpa using hv.1, fun j c e => ?_⟩).mono fun _ _ => Res.mono (fun _ _ h => h) q1
    rw [List.getElem?_map] at e
    obtain ⟨c0, h0, rfl⟩ := Option.map_eq_some_iff.1 e
    exact q3 _ _ (hv.2 j c0 h0)⟩
theorem rowsOK_B (l : List Bool) : RowsOK 1 (encBl l) := fun r hr => by
  obtain ⟨x, _, rfl⟩ := List.mem_map.1 hr
  exact ⟨rfl, fun c hc => by simp [AV.cells] at hc; subst hc; rfl⟩
theorem flat_B (l : List Bool) : flat (encBl l) = encBl l := by
  induction l with
  | nil => rfl
  | cons x l ih =>
    have : flat (.bool x :: encBl l) = .bool x :: flat (encBl l) := rfl
    show flat (.bool x :: encBl l) = _
    rw [this, ih]; rfl
theorem fz_B (i : Nat) (cs : List AV) (l : List Bool) : fzL i cs (encBl l) = encBl l := So.fzL_maps _ (fun _ => rfl) l
theorem fz_ownB (i c : Nat) (l : List Bool) (pad : List AV) (hc : l.length ≤ c) (hp : ∀ a ∈ pad, a.isAgg = false) : fzV i (encBl l ++ pad) (.ms i 0 l.length c 1) = .sl (encBl l) .free := by
  rw [fzV, if_pos, List.drop_zero, rowsOf_one _ _ (by simp [encBl_len]), List.take_append_of_le_length (by simp [encBl_len]), ← encBl_len l, List.take_length]
  refine ⟨rfl, ?_⟩
  simp only [fzOK, Bool.and_eq_true, decide_eq_true_eq, bne_iff_ne, List.all_eq_true, Bool.not_eq_true', List.length_append, encBl_len]
  refine ⟨⟨⟨by omega, hc⟩, by decide⟩, fun a ha => ?_⟩
  rcases List.mem_append.1 ha with ha | ha
  · obtain ⟨x, _, rfl⟩ := List.mem_map.1 ha; rfl
  · exact hp a ha
section
variable {P : Program} {Γ : Nat → Option (List AV)} {N : Nat} {σ : Tm} {h : AH} {Q : Exit → Tm → AH → Prop}
/-- What is gathered, where code runs off its end. -/
def gotU (kp : List Nat) (G : Tm → AH → Prop) : Exit → Tm → AH → Prop
  | .normal, σ, h => G (keep kp σ) h
  | _, _, _ => False
@[go_sem] theorem gotU_normal (kp : List Nat) (G : Tm → AH → Prop) : gotU kp G .normal σ h = G (keep kp σ) h := (rfl)
theorem awp_gotU {c d : Code} (kp : List Nat) (G : Tm → AH → Prop) (H : AWP P Γ N c (gotU kp G) σ h) (T : ∀ σ h, G σ h → AWP P Γ N d Q σ h) : AWP P Γ N (.seq c d) Q σ h :=
  awp_seq (H.mono fun e σ h he => by
    cases e with
    | normal => exact AWP.keep kp (T _ _ he)
    | _ => exact he.elim)
end
/-- A true answer more. -/
theorem dec_set (mode : Int) (l : List Bool) (k : Nat) (hk : k < l.length) : (decF mode (l.set k true)).2 = (decF mode l).2 ∧ ((decF mode l).1 = true → (decF mode (l.set k true)).1 = true) := by
  have hl : (l.set k true).length = l.length := List.length_set ..
  rw [decF, decF, hl]
  split
  · exact ⟨rfl, id⟩
  refine ⟨rfl, fun h => ?_⟩
  simp only at h ⊢
  rw [togF] at h ⊢
  have mem : ∀ x ∈ l.set k true, x ∈ l ∨ x = true := fun x hx => List.mem_or_eq_of_mem_set hx
  split at h
  · rw [decide_eq_true_eq] at h
    rename_i hm
    rw [if_pos hm, decide_eq_true_eq, hl]
    refine ⟨h.1, (fstB_no false _ 0).2 fun x hx e => ?_⟩
    rcases mem x hx with h1 | h1
    · exact (fstB_no false _ 0).1 h.2 x h1 e
    · rw [h1] at e; cases e
  · rename_i hm
    rw [if_neg hm]
    split at h
    · rename_i hm2
      rw [if_pos hm2, decide_eq_true_eq]
      have : ¬ fstB true 0 (l.set k true) < 0 := fun e => (fstB_no true _ 0).1 e true (List.mem_iff_getElem?.2 ⟨k, by rw [List.getElem?_set_self hk]⟩) rfl
      omega
    · rename_i hm2
      rw [if_neg hm2]
      rw [decide_eq_true_eq] at h ⊢
      subst h
      have : k = 0 := by simp at hk; omega
      subst this; rfl
theorem judges_ok {l : List Vs} {begun at_ kn : Int} (h : (judgesF l begun at_ kn).2.2 = 0) : chkAll l = 0 ∧ (timeF begun = true ∧ timeF at_ = true ∧ timeF kn = true ∧ begun ≤ at_) ∧ judgesF l begun at_ kn = ((judF l begun at_ kn).1, (judF l begun at_ kn).2, 0) := by
  rw [judgesF] at h ⊢
  split at h
  · rename_i h1; exact absurd h h1
  · rename_i h1
    rw [if_neg h1]
    split at h
    · rename_i h2
      exact ⟨by simpa using h1, h2, by rw [if_pos h2]⟩
    · exact absurd h (by decide)
theorem judges_bad {l : List Vs} {begun at_ kn : Int} (h : (judgesF l begun at_ kn).2.2 ≠ 0) : judgesF l begun at_ kn = ([], 0, (judgesF l begun at_ kn).2.2) := by
  have : ∀ q : List Int × Int × Int, q.2.2 ≠ 0 → q = judgesF l begun at_ kn → q = ([], 0, q.2.2) := fun q hq e => by
    rw [judgesF] at e
    split at e
    · rw [e]
    · split at e
      · rw [e] at hq; exact absurd rfl hq
      · rw [e]
  exact this _ h rfl
theorem stand_ok {l : List Vs} {t kn : Int} (h : chkAll l = 0) (h1 : timeF t = true) (h2 : timeF kn = true) : standF l t kn = (noO (forceV t kn l), (forceV t kn l).isSome, 0) := by
  rw [standF, if_neg (fun e => e h), if_pos ⟨h1, h2⟩]
set_option maxHeartbeats 1600000 in
set_option maxRecDepth 100000 in
theorem lawMore_calls (Γ : Nat → Option (List AV)) (hΓ : Γ 0 = some kindsC) (l : List Vs) (begun at_ kn mode : Int) (p : List Bool) (w : Int) (h : AH) (F : FwV l) (hp : p.length ≤ 9223372036854775807) (hw : 0 ≤ w ∧ w ≤ 255) :
    ACalls Tryd.prog Γ 7 [.sl (l.map encV) .free, .int .i64 begun, .int .i64 at_, .int .i64 kn, .int .i64 mode, .sl (encBl p) .free, .int .u8 w] h fun v h' => h' = h ∧ v = .bool true := by
  refine ACalls.drop ?_
  refine acalls_of_awp (rs := [.tmp 14]) Tryd.func7 rfl rfl rfl rfl ?_
  refine AWP.mark2 (by decide) ?_
  refine awp_seq (aCode_ok Ty.mixed _ _ _ _ (by kernel_rfl) ?_)
  simp (disch := omega) only [go_sem, seval]
  refine awp_seq (aCode_ok Ty.mixed _ _ _ _ (by kernel_rfl) ?_)
  simp (disch := omega) only [go_sem, seval]
  refine ACalls.det (sane27_calls Γ hΓ _) ?_
  simp (disch := omega) only [go_sem, seval]
  refine awp_seq (aCode_ok Ty.mixed _ _ _ _ (by kernel_rfl) ?_)
  simp (disch := omega) only [go_sem, seval]
  refine ACalls.det (fewV_calls Γ l _ F.n F.sh) ?_
  cases hf : fewVF l <;> simp (disch := omega) only [go_sem, seval, encBl_len]
  refine aIf.intro (fun h1 => ?_) (fun h1 => ?_) <;> simp (disch := omega) only [go_sem, seval]
  obtain ⟨C, hc⟩ := few_vsC F hf
  refine awp_seq (aCode_ok Ty.mixed _ _ _ _ (by kernel_rfl) ?_)
  simp (disch := omega) only [go_sem, seval]
  refine ACalls.det (decide_calls Γ mode p _ hp) ?_
  simp (disch := omega) only [go_sem, seval]
  refine awp_gotU [0, 1, 2, 3] (fun σ hy => (∃ X, hy = h ++ X) ∧ σ = [(0, .sl (l.map encV) .free), (1, .int .i64 begun), (2, .int .i64 at_), (3, .int .i64 kn)]) (aCode_ok Ty.mixed _ _ _ _ (by kernel_rfl) ?_) ?_
  · simp (disch := omega) only [go_sem, seval, encBl_len]
    refine aIf.intro (fun h2 => ?_) (fun h2 => ?_) <;> simp (disch := omega) only [go_sem, seval]
    · have ap := fun (Q : AV → AH → Prop) (H : _) => So.aApM_own (h := h) (j := []) (T := 4) (by_ := 1) (z := [.bool false]) (Q := Q) (xs := []) (ys := encBl p) (v := .sl [] .full) (x := .sl (encBl p) .free) (.inl ⟨rfl, rfl⟩) rfl (rowsOK_B p) (flat_B p) (fun e => by have := congrArg List.length e; rw [encBl_len, List.length_nil] at this; omega) (by rw [encBl_len]; simp; omega) (by rw [encBl_len]; simp; omega) H
      rw [List.append_nil] at ap
      refine ap _ fun v j hv _ => ?_
      rw [List.nil_append] at hv
      rcases hv with ⟨rfl, hnil⟩ | ⟨q, c, pad, rfl, hq, hc', hpad⟩
      · have := congrArg List.length hnil
        rw [encBl_len, List.length_nil] at this
        omega
      rw [encBl_len] at hc' ⊢
      have hg : (h ++ j)[h.length + q]? = some (.row (encBl p ++ pad) 4) := by rw [hget_add]; exact hq
      simp (disch := omega) only [go_sem, seval, hg]
      obtain ⟨k, hk⟩ : ∃ k : Nat, w.tmod p.length = (k : Int) := ⟨(w.tmod p.length).toNat, by have := Int.tmod_nonneg (p.length : Int) hw.1; omega⟩
      have hkl : k < p.length := by have := Int.tmod_lt_of_pos w (b := (p.length : Int)) (by omega); omega
      rw [hk]
      have hst : (encBl p ++ pad).set (0 + (k : Int).toNat * 1) (.bool true) = encBl (p.set k true) ++ pad := by
        rw [Int.toNat_natCast, Nat.zero_add, Nat.mul_one, List.set_append_left _ _ (by rw [encBl_len]; exact hkl)]
        simp [encBl, List.map_set]
      rw [hst]
      refine ⟨by omega, by omega, by omega, by rw [List.length_append, encBl_len]; omega, ?_⟩
      obtain ⟨d1, d2⟩ := dec_set mode p k hkl
      have hql := (List.getElem?_eq_some_iff.1 hq).1
      have hg2 : (h ++ j.set q (.row (encBl (p.set k true) ++ pad) 4))[h.length + q]? = some (.row (encBl (p.set k true) ++ pad) 4) := by rw [hget_add, List.getElem?_set_self hql]
      have hfz := fz_ownB (h.length + q) c (p.set k true) pad (by rw [List.length_set]; omega) hpad
      rw [List.length_set] at hfz
      refine ACalls.ofFreeze hg2 (Froze.set hg2) ?_
      rw [List.map_cons, List.map_cons, List.map_nil, hfz]
      rw [hset_add]
      refine ACalls.det (decide_calls Γ mode (p.set k true) _ (by rw [List.length_set]; exact hp)) ?_
      rw [d1]
      cases ha : (decF mode p).1
      · simp (disch := omega) only [go_sem, seval]
      · rw [d2 ha]
        simp (disch := omega) only [go_sem, seval]
  rintro σ hy ⟨⟨X, rfl⟩, rfl⟩
  refine aCode_ok Ty.mixed _ _ _ _ (by kernel_rfl) ?_
  simp (disch := omega) only [go_sem, seval]
  have hn := C.n
  have hlen := judges_len (begun := begun) (at_ := at_) (kn := kn) hc
  refine ACalls.det (judges0_calls Γ hΓ l begun at_ kn _ C hc) ?_
  simp (disch := omega) only [go_sem, seval]
  refine aIf.intro (fun h3 => ?_) (fun h3 => ?_) <;> simp (disch := omega) only [go_sem, seval, encI_len]
  rotate_left
  · rw [judges_bad h3]
    simp
  obtain ⟨h0, ⟨t1, t2, t3, t4⟩, hj⟩ := judges_ok h3
  have hG := chkAll_ok h0
  have cs := fun h => standing_calls Γ hΓ l begun kn h C
  rw [stand_ok h0 t1 t3] at cs
  rw [hj] at hlen ⊢
  refine ACalls.det (cs _) ?_
  simp (disch := omega) only [go_sem, seval]
  refine awp_loopL (β := AH) l [1, 2, 3, 20, 23, 24, 97, 98, 99] (fun don b => [(1, .int .i64 begun), (2, .int .i64 at_), (3, .int .i64 kn), (20, .sl (encI (judF l begun at_ kn).1) .free), (23, .int .i64 (noO (forceV begun kn l))), (24, .bool (forceV begun kn l).isSome), (97, .sl (l.map encV) .free), (98, .int .i64 l.length), (99, .int .i64 don.length)]) (fun b => h ++ b) (fun don _ _ => ∀ x ∈ don, ¬ (x.kn ≤ kn ∧ begun < x.tm ∧ x.tm ≤ at_)) X ?_ rfl (fun x hx => by cases hx) Ty.mixed (by kernel_rfl) ?_ ?_
  · simp (disch := omega) only [go_sem, seval, List.length_nil, List.length_map]
  · rintro don x r X hdn hI
    have hln : l.length = don.length + 1 + r.length := by rw [hdn]; simp; omega
    have e1 : (l.map encV)[don.length]? = some (encV x) := by rw [hdn]; exact rowMid ..
    rw [encV_eq] at e1
    have nx : ¬ (x.kn ≤ kn ∧ begun < x.tm ∧ x.tm ≤ at_) → ∀ y ∈ don ++ [x], ¬ (y.kn ≤ kn ∧ begun < y.tm ∧ y.tm ≤ at_) := fun e y hy => by
      rcases List.mem_append.1 hy with hy | hy
      · exact hI y hy
      · rw [List.mem_singleton] at hy; subst hy; exact e
    simp (disch := omega) only [go_sem, seval, List.length_map]
    refine aIf.pos (by omega) ?_
    simp (disch := omega) only [go_sem, seval, e1, List.length_map]
    refine aIf.intro (fun h5 => ?_) (fun h5 => ?_) <;> simp (disch := omega) only [go_sem, seval]
    rotate_left
    · refine roundL_next (X ++ [rowV x]) (nx fun e => h5 e.1) ?_ (by simp [rowV])
      simp (disch := omega) only [go_sem, seval, List.length_append]
    refine aIf.intro (fun h6 => ?_) (fun h6 => ?_) <;> simp (disch := omega) only [go_sem, seval]
    rotate_left
    · refine roundL_next (X ++ [rowV x]) (nx fun e => h6 e.2.1) ?_ (by simp [rowV])
      simp (disch := omega) only [go_sem, seval, List.length_append]
    refine aIf.intro (fun h7 => ?_) (fun h7 => ?_) <;> simp (disch := omega) only [go_sem, seval]
    refine roundL_next (X ++ [rowV x]) (nx fun e => h7 e.2.2) ?_ (by simp [rowV])
    simp (disch := omega) only [go_sem, seval, List.length_append]
  · rintro X hI
    simp (disch := omega) only [go_sem, seval, List.length_map]
    refine AWP.keep [20, 23, 24] (aCode_ok Ty.mixed _ _ _ _ (by kernel_rfl) ?_)
    obtain ⟨o1, o2⟩ := met_one (kn := kn) hG t4 hI
    cases ho : forceV begun kn l with
    | none =>
      rw [o1 ho]
      simp (disch := omega) only [go_sem, seval, Option.isSome_none]
      refine aIf.pos rfl ?_
      simp (disch := omega) only [go_sem, seval]
    | some y =>
      rw [o2 y ho]
      simp (disch := omega) only [go_sem, seval, Option.isSome_some]
      have hno : noO (some y) = y.no := rfl
      rw [hno]
      refine ACalls.ofLoose (ACalls.det (sameInts_calls Γ [y.no] [y.no] _ (by simp) (by simp)) ?_) (by simp [looseL, loose, encI])
      simp only [decide_true]
      simp (disch := omega) only [go_sem, seval]
end Go.Proofs.YtjdhgaflenhljaaDoor
