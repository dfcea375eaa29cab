/- Texts joined: UnM, UnN. No conditions. -/
import Derived.Test.YtjdhgaflenhljaaDoorMrHI
/- The law More. No conditions. -/
set_option linter.unusedSimpArgs false
set_option linter.unusedVariables false
namespace Go.Proofs.YtjdhgaflenhljaaDoor
open Go Go.Proofs Go.Abs

theorem ACalls.ofFreeze {P : Program} {Γ : Nat → Option (List AV)} {f : FuncId} {args : List AV} {h h3 : AH} {R : AV → AH → Prop} {i : Nat} {cs : List AV} {T : TypeId} (hi : h[i]? = some (.row cs T)) (hf : Froze i cs h h3) (H : ACalls P Γ f (args.map (fzV i cs)) h3 R) : ACalls P Γ f args h R :=
  ⟨H.1, fun G w vs hI hv => by
    obtain ⟨b, vals, q1, q2, q3⟩ := hI.freeze hi hf
    refine (H.2 _ w vs q2 ⟨by simpa using hv.1, fun j c e => ?_⟩).mono fun _ _ => Res.mono (fun _ _ h => h) q1
    rw [List.getElem?_map] at e
    obtain ⟨c0, h0, rfl⟩ := Option.map_eq_some_iff.1 e
    exact q3 _ _ (hv.2 j c0 h0)⟩
theorem rowsOK_B (l : List Bool) : RowsOK 1 (encBl l) := fun r hr => by
  obtain ⟨x, _, rfl⟩ := List.mem_map.1 hr
  exact ⟨rfl, fun c hc => by simp [AV.cells] at hc; subst hc; rfl⟩
theorem flat_B (l : List Bool) : flat (encBl l) = encBl l := by
  induction l with
  | nil => rfl
  | cons x l ih =>
    have : flat (.bool x :: encBl l) = .bool x :: flat (encBl l) := rfl
    show flat (.bool x :: encBl l) = _
    rw [this, ih]; rfl
theorem fz_B (i : Nat) (cs : List AV) (l : List Bool) : fzL i cs (encBl l) = encBl l := So.fzL_maps _ (fun _ => rfl) l
theorem fz_ownB (i c : Nat) (l : List Bool) (pad : List AV) (hc : l.length ≤ c) (hp : ∀ a ∈ pad, a.isAgg = false) : fzV i (encBl l ++ pad) (.ms i 0 l.length c 1) = .sl (encBl l) .free := by
  rw [fzV, if_pos, List.drop_zero, rowsOf_one _ _ (by simp [encBl_len]), List.take_append_of_le_length (by simp [encBl_len]), ← encBl_len l, List.take_length]
  refine ⟨rfl, ?_⟩
  simp only [fzOK, Bool.and_eq_true, decide_eq_true_eq, bne_iff_ne, List.all_eq_true, Bool.not_eq_true', List.length_append, encBl_len]
  refine ⟨⟨⟨by omega, hc⟩, by decide⟩, fun a ha => ?_⟩
  rcases List.mem_append.1 ha with ha | ha
  · obtain ⟨x, _, rfl⟩ := List.mem_map.1 ha; rfl
  · exact hp a ha
section
variable {P : Program} {Γ : Nat → Option (List AV)} {N : Nat} {σ : Tm} {h : AH} {Q : Exit → Tm → AH → Prop}
/-- What is gathered, where code runs off its end. -/
def gotU (kp : List Nat) (G : Tm → AH → Prop) : Exit → Tm → AH → Prop
  | .normal, σ, h => G (keep kp σ) h
  | _, _, _ => False
@[go_sem] theorem gotU_normal (kp : List Nat) (G : Tm → AH → Prop) : gotU kp G .normal σ h = G (keep kp σ) h := (rfl)
theorem awp_gotU {c d : Code} (kp : List Nat) (G : Tm → AH → Prop) (H : AWP P Γ N c (gotU kp G) σ h) (T : ∀ σ h, G σ h → AWP P Γ N d Q σ h) : AWP P Γ N (.seq c d) Q σ h :=
  awp_seq (H.mono fun e σ h he => by
    cases e with
    | normal => exact AWP.keep kp (T _ _ he)
    | _ => exact he.elim)
end
/-- A true answer more. -/
theorem dec_set (mode : Int) (l : List Bool) (k : Nat) (hk : k < l.length) : (decF mode (l.set k true)).2 = (decF mode l).2 ∧ ((decF mode l).1 = true → (decF mode (l.set k true)).1 = true) := by
  have hl : (l.set k true).length = l.length := List.length_set ..
  rw [decF, decF, hl]
  split
  · exact ⟨rfl, id⟩
  refine ⟨rfl, fun h => ?_⟩
  simp only at h ⊢
  rw [togF] at h ⊢
  have mem : ∀ x ∈ l.set k true, x ∈ l ∨ x = true := fun x hx => List.mem_or_eq_of_mem_set hx
  split at h
  · rw [decide_eq_true_eq] at h
    rename_i hm
    rw [if_pos hm, decide_eq_true_eq, hl]
    refine ⟨h.1, (fstB_no false _ 0).2 fun x hx e => ?_⟩
    rcases mem x hx with h1 | h1
    · exact (fstB_no false _ 0).1 h.2 x h1 e
    · rw [h1] at e; cases e
  · rename_i hm
    rw [if_neg hm]
    split at h
    · rename_i hm2
      rw [if_pos hm2, decide_eq_true_eq]
      have : ¬ fstB true 0 (l.set k true) < 0 := fun e => (fstB_no true _ 0).1 e true (List.mem_iff_getElem?.2 ⟨k, by rw [List.getElem?_set_self hk]⟩) rfl
      omega
    · rename_i hm2
      rw [if_neg hm2]
      rw [decide_eq_true_eq] at h ⊢
      subst h
      have : k = 0 := by simp at hk; omega
      subst this; rfl
theorem judges_ok {l : List Vs} {begun at_ kn : Int} (h : (judgesF l begun at_ kn).2.2 = 0) : chkAll l = 0 ∧ (timeF begun = true ∧ timeF at_ = true ∧ timeF kn = true ∧ begun ≤ at_) ∧ judgesF l begun at_ kn = ((judF l begun at_ kn).1, (judF l begun at_ kn).2, 0) := by
  rw [judgesF] at h ⊢
  split at h
  · rename_i h1; exact absurd h h1
  · rename_i h1
    rw [if_neg h1]
    split at h
    · rename_i h2
      exact ⟨by simpa using h1, h2, by rw [if_pos h2]⟩
    · exact absurd h (by decide)
theorem judges_bad {l : List Vs} {begun at_ kn : Int} (h : (judgesF l begun at_ kn).2.2 ≠ 0) : judgesF l begun at_ kn = ([], 0, (judgesF l begun at_ kn).2.2) := by
  have : ∀ q : List Int × Int × Int, q.2.2 ≠ 0 → q = judgesF l begun at_ kn → q = ([], 0, q.2.2) := fun q hq e => by
    rw [judgesF] at e
    split at e
    · rw [e]
    · split at e
      · rw [e] at hq; exact absurd rfl hq
      · rw [e]
  exact this _ h rfl
theorem stand_ok {l : List Vs} {t kn : Int} (h : chkAll l = 0) (h1 : timeF t = true) (h2 : timeF kn = true) : standF l t kn = (noO (forceV t kn l), (forceV t kn l).isSome, 0) := by
  rw [standF, if_neg (fun e => e h), if_pos ⟨h1, h2⟩]
set_option maxHeartbeats 1600000 in
set_option maxRecDepth 100000 in
theorem lawMore_calls (Γ : Nat → Option (List AV)) (hΓ : Γ 0 = some kindsC) (l : List Vs) (begun at_ kn mode : Int) (p : List Bool) (w : Int) (h : AH) (F : FwV l) (hp : p.length ≤ 9223372036854775807) (hw : 0 ≤ w ∧ w ≤ 255) :
    ACalls Tryd.prog Γ 7 [.sl (l.map encV) .free, .int .i64 begun, .int .i64 at_, .int .i64 kn, .int .i64 mode, .sl (encBl p) .free, .int .u8 w] h fun v h' => h' = h ∧ v = .bool true := by
  refine ACalls.drop ?_
  refine acalls_of_awp (rs := [.tmp 14]) Tryd.func7 rfl rfl rfl rfl ?_
  refine AWP.mark2 (by decide) ?_
  refine awp_seq (aCode_ok Ty.mixed _ _ _ _ (by kernel_rfl) ?_)
  simp (disch := omega) only [go_sem, seval]
  refine awp_seq (aCode_ok Ty.mixed _ _ _ _ (by kernel_rfl) ?_)
  simp (disch := omega) only [go_sem, seval]
  refine ACalls.det (sane27_calls Γ hΓ _) ?_
  simp (disch := omega) only [go_sem, seval]
  refine awp_seq (aCode_ok Ty.mixed _ _ _ _ (by kernel_rfl) ?_)
  simp (disch := omega) only [go_sem, seval]
  refine ACalls.det (fewV_calls Γ l _ F.n F.sh) ?_
  cases hf : fewVF l <;> simp (disch := omega) only [go_sem, seval, encBl_len]
  refine aIf.intro (fun h1 => ?_) (fun h1 => ?_) <;> simp (disch := omega) only [go_sem, seval]
  obtain ⟨C, hc⟩ := few_vsC F hf
  refine awp_seq (aCode_ok Ty.mixed _ _ _ _ (by kernel_rfl) ?_)
  simp (disch := omega) only [go_sem, seval]
  refine ACalls.det (decide_calls Γ mode p _ hp) ?_
  simp (disch := omega) only [go_sem, seval]
  refine awp_gotU [0, 1, 2, 3] (fun σ hy => (∃ X, hy = h ++ X) ∧ σ = [(0, .sl (l.map encV) .free), (1, .int .i64 begun), (2, .int .i64 at_), (3, .int .i64 kn)]) (aCode_ok Ty.mixed _ _ _ _ (by kernel_rfl) ?_) ?_
  · simp (disch := omega) only [go_sem, seval, encBl_len]
    refine aIf.intro (fun h2 => ?_) (fun h2 => ?_) <;> simp (disch := omega) only [go_sem, seval]
    · have ap := fun (Q : AV → AH → Prop) (H : _) => So.aApM_own (h := h) (j := []) (T := 4) (by_ := 1) (z := [.bool false]) (Q := Q) (xs := []) (ys := encBl p) (v := .sl [] .full) (x := .sl (encBl p) .free) (.inl ⟨rfl, rfl⟩) rfl (rowsOK_B p) (flat_B p) (fun e => by have := congrArg List.length e; rw [encBl_len, List.length_nil] at this; omega) (by rw [encBl_len]; simp; omega) (by rw [encBl_len]; simp; omega) H
      rw [List.append_nil] at ap
      refine ap _ fun v j hv _ => ?_
      rw [List.nil_append] at hv
      rcases hv with ⟨rfl, hnil⟩ | ⟨q, c, pad, rfl, hq, hc', hpad⟩
      · have := congrArg List.length hnil
        rw [encBl_len, List.length_nil] at this
        omega
      rw [encBl_len] at hc' ⊢
      have hg : (h ++ j)[h.length + q]? = some (.row (encBl p ++ pad) 4) := by rw [hget_add]; exact hq
      simp (disch := omega) only [go_sem, seval, hg]
      obtain ⟨k, hk⟩ : ∃ k : Nat, w.tmod p.length = (k : Int) := ⟨(w.tmod p.length).toNat, by have := Int.tmod_nonneg (p.length : Int) hw.1; omega⟩
      have hkl : k < p.length := by have := Int.tmod_lt_of_pos w (b := (p.length : Int)) (by omega); omega
      rw [hk]
      have hst : (encBl p ++ pad).set (0 + (k : Int).toNat * 1) (.bool true) = encBl (p.set k true) ++ pad := by
        rw [Int.toNat_natCast, Nat.zero_add, Nat.mul_one, List.set_append_left _ _ (by rw [encBl_len]; exact hkl)]
        simp [encBl, List.map_set]
      rw [hst]
      refine ⟨by omega, by omega, by omega, by rw [List.length_append, encBl_len]; omega, ?_⟩
      obtain ⟨d1, d2⟩ := dec_set mode p k hkl
      have hql := (List.getElem?_eq_some_iff.1 hq).1
      have hg2 : (h ++ j.set q (.row (encBl (p.set k true) ++ pad) 4))[h.length + q]? = some (.row (encBl (p.set k true) ++ pad) 4) := by rw [hget_add, List.getElem?_set_self hql]
      have hfz := fz_ownB (h.length + q) c (p.set k true) pad (by rw [List.length_set]; omega) hpad
      rw [List.length_set] at hfz
      refine ACalls.ofFreeze hg2 (Froze.set hg2) ?_
      rw [List.map_cons, List.map_cons, List.map_nil, hfz]
      rw [hset_add]
      refine ACalls.det (decide_calls Γ mode (p.set k true) _ (by rw [List.length_set]; exact hp)) ?_
      rw [d1]
      cases ha : (decF mode p).1
      · simp (disch := omega) only [go_sem, seval]
      · rw [d2 ha]
        simp (disch := omega) only [go_sem, seval]
  rintro σ hy ⟨⟨X, rfl⟩, rfl⟩
  refine aCode_ok Ty.mixed _ _ _ _ (by kernel_rfl) ?_
  simp (disch := omega) only [go_sem, seval]
  have hn := C.n
  have hlen := judges_len (begun := begun) (at_ := at_) (kn := kn) hc
  refine ACalls.det (judges0_calls Γ hΓ l begun at_ kn _ C hc) ?_
  simp (disch := omega) only [go_sem, seval]
  refine aIf.intro (fun h3 => ?_) (fun h3 => ?_) <;> simp (disch := omega) only [go_sem, seval, encI_len]
  rotate_left
  · rw [judges_bad h3]
    simp
  obtain ⟨h0, ⟨t1, t2, t3, t4⟩, hj⟩ := judges_ok h3
  have hG := chkAll_ok h0
  have cs := fun h => standing_calls Γ hΓ l begun kn h C
  rw [stand_ok h0 t1 t3] at cs
  rw [hj] at hlen ⊢
  refine ACalls.det (cs _) ?_
  simp (disch := omega) only [go_sem, seval]
  refine awp_loopL (β := AH) l [1, 2, 3, 20, 23, 24, 97, 98, 99] (fun don b => [(1, .int .i64 begun), (2, .int .i64 at_), (3, .int .i64 kn), (20, .sl (encI (judF l begun at_ kn).1) .free), (23, .int .i64 (noO (forceV begun kn l))), (24, .bool (forceV begun kn l).isSome), (97, .sl (l.map encV) .free), (98, .int .i64 l.length), (99, .int .i64 don.length)]) (fun b => h ++ b) (fun don _ _ => ∀ x ∈ don, ¬ (x.kn ≤ kn ∧ begun < x.tm ∧ x.tm ≤ at_)) X ?_ rfl (fun x hx => by cases hx) Ty.mixed (by kernel_rfl) ?_ ?_
  · simp (disch := omega) only [go_sem, seval, List.length_nil, List.length_map]
  · rintro don x r X hdn hI
    have hln : l.length = don.length + 1 + r.length := by rw [hdn]; simp; omega
    have e1 : (l.map encV)[don.length]? = some (encV x) := by rw [hdn]; exact rowMid ..
    rw [encV_eq] at e1
    have nx : ¬ (x.kn ≤ kn ∧ begun < x.tm ∧ x.tm ≤ at_) → ∀ y ∈ don ++ [x], ¬ (y.kn ≤ kn ∧ begun < y.tm ∧ y.tm ≤ at_) := fun e y hy => by
      rcases List.mem_append.1 hy with hy | hy
      · exact hI y hy
      · rw [List.mem_singleton] at hy; subst hy; exact e
    simp (disch := omega) only [go_sem, seval, List.length_map]
    refine aIf.pos (by omega) ?_
    simp (disch := omega) only [go_sem, seval, e1, List.length_map]
    refine aIf.intro (fun h5 => ?_) (fun h5 => ?_) <;> simp (disch := omega) only [go_sem, seval]
    rotate_left
    · refine roundL_next (X ++ [rowV x]) (nx fun e => h5 e.1) ?_ (by simp [rowV])
      simp (disch := omega) only [go_sem, seval, List.length_append]
    refine aIf.intro (fun h6 => ?_) (fun h6 => ?_) <;> simp (disch := omega) only [go_sem, seval]
    rotate_left
    · refine roundL_next (X ++ [rowV x]) (nx fun e => h6 e.2.1) ?_ (by simp [rowV])
      simp (disch := omega) only [go_sem, seval, List.length_append]
    refine aIf.intro (fun h7 => ?_) (fun h7 => ?_) <;> simp (disch := omega) only [go_sem, seval]
    refine roundL_next (X ++ [rowV x]) (nx fun e => h7 e.2.2) ?_ (by simp [rowV])
    simp (disch := omega) only [go_sem, seval, List.length_append]
  · rintro X hI
    simp (disch := omega) only [go_sem, seval, List.length_map]
    refine AWP.keep [20, 23, 24] (aCode_ok Ty.mixed _ _ _ _ (by kernel_rfl) ?_)
    obtain ⟨o1, o2⟩ := met_one (kn := kn) hG t4 hI
    cases ho : forceV begun kn l with
    | none =>
      rw [o1 ho]
      simp (disch := omega) only [go_sem, seval, Option.isSome_none]
      refine aIf.pos rfl ?_
      simp (disch := omega) only [go_sem, seval]
    | some y =>
      rw [o2 y ho]
      simp (disch := omega) only [go_sem, seval, Option.isSome_some]
      have hno : noO (some y) = y.no := rfl
      rw [hno]
      refine ACalls.ofLoose (ACalls.det (sameInts_calls Γ [y.no] [y.no] _ (by simp) (by simp)) ?_) (by simp [looseL, loose, encI])
      simp only [decide_true]
      simp (disch := omega) only [go_sem, seval]
end Go.Proofs.YtjdhgaflenhljaaDoor

/- The law Force. No conditions. -/
set_option linter.unusedSimpArgs false
set_option linter.unusedVariables false
namespace Go.Proofs.YtjdhgaflenhljaaDoor
open Go Go.Proofs Go.Abs

theorem perm_ext {a b : List Int} (ha : a.Nodup) (hb : b.Nodup) (h : ∀ n, n ∈ a ↔ n ∈ b) : a.Perm b := (List.perm_ext_iff_of_nodup ha hb).2 h
/-- All versions judge: whose numbers. -/
theorem jud_all {l : List Vs} {begun at_ kn : Int} (hG : VsG l) (hb : begun ≤ at_) {y : Vs} (hy : forceV at_ kn l = some y) (h1 : y.p.mode ≠ 1) (h2 : y.p.mode ≠ 2) :
    (judF l begun at_ kn).1.Pairwise (· < ·) ∧ (∀ n, n ∈ (judF l begun at_ kn).1 ↔ n ∈ (metV l begun at_ kn).map Vs.no) := by
  obtain ⟨h0, hm, _⟩ := met_some hG hb hy
  have e : (judF l begun at_ kn).1 = So.sortI ((metV l begun at_ kn).map Vs.no) := by
    rw [judF, if_neg h0, hm]
    simp only
    rw [jdgF, if_neg h1, if_neg h2]
  rw [e]
  exact ⟨pw_lt (So.sortI_le _) ((So.sortI_perm _).nodup_iff.2 (met_nodup hG)), fun n => (So.sortI_perm _).mem_iff⟩
structure MetM (l : List Vs) (begun at_ kn : Int) (don : List Vs) (m : List Int) : Prop where
  nd : m.Nodup
  mem : ∀ n, n ∈ m ↔ (∃ y, forceV begun kn l = some y ∧ y.no = n) ∨ ∃ x ∈ don, begun < x.tm ∧ x.tm ≤ at_ ∧ ∃ y, forceV x.tm kn l = some y ∧ y.no = n
  n : m.length ≤ don.length + 1
theorem MetM.skip {l don : List Vs} {begun at_ kn : Int} {m : List Int} {x : Vs} (H : MetM l begun at_ kn don m) (h : ∀ y, begun < x.tm → x.tm ≤ at_ → forceV x.tm kn l = some y → y.no ∈ m) : MetM l begun at_ kn (don ++ [x]) m := by
  refine ⟨H.nd, fun n => ⟨fun hn => ?_, fun hn => ?_⟩, by have := H.n; simp; omega⟩
  · rcases (H.mem n).1 hn with h1 | ⟨z, hz, h1⟩
    · exact .inl h1
    · exact .inr ⟨z, by simp [hz], h1⟩
  · rcases hn with h1 | ⟨z, hz, h1, h2, y, h3, rfl⟩
    · exact (H.mem n).2 (.inl h1)
    · rcases List.mem_append.1 hz with hz | hz
      · exact (H.mem _).2 (.inr ⟨z, hz, h1, h2, y, h3, rfl⟩)
      · rw [List.mem_singleton] at hz; subst hz; exact h y h1 h2 h3
theorem MetM.add {l don : List Vs} {begun at_ kn : Int} {m : List Int} {x y : Vs} (H : MetM l begun at_ kn don m) (h1 : begun < x.tm) (h2 : x.tm ≤ at_) (h3 : forceV x.tm kn l = some y) (h4 : y.no ∉ m) : MetM l begun at_ kn (don ++ [x]) (m ++ [y.no]) := by
  refine ⟨?_, fun n => ?_, by have := H.n; simp; omega⟩
  · rw [List.nodup_append]
    exact ⟨H.nd, by simp, fun a ha b hb e => h4 (by simp at hb; rw [← hb, ← e]; exact ha)⟩
  · rw [List.mem_append, List.mem_singleton, H.mem]
    constructor
    · rintro ((k1 | ⟨z, hz, k1⟩) | rfl)
      · exact .inl k1
      · exact .inr ⟨z, by simp [hz], k1⟩
      · exact .inr ⟨x, by simp, h1, h2, y, h3, rfl⟩
    · rintro (k1 | ⟨z, hz, k1, k2, w, k3, rfl⟩)
      · exact .inl (.inl k1)
      · rcases List.mem_append.1 hz with hz | hz
        · exact .inl (.inr ⟨z, hz, k1, k2, w, k3, rfl⟩)
        · rw [List.mem_singleton] at hz; subst hz
          rw [h3] at k3; cases k3; exact .inr rfl
set_option maxRecDepth 100000 in
theorem has27_calls (Γ : Nat → Option (List AV)) (l : List Int) (n : Int) (h : AH) (hl : l.length ≤ 9223372036854775807) :
    ACalls Tryd.prog Γ 17 [.sl (encI l) .free, .int .i64 n] h fun v h' => h' = h ∧ v = .bool (decide (n ∈ l)) := by
  refine ACalls.drop ?_
  refine acalls_code (rs := [.tmp 4]) Tryd.func17 rfl rfl rfl rfl Ty.mixed (by kernel_rfl) ?_
  simp (disch := omega) only [go_sem, seval, encI_len]
  refine awp_loopL (β := Unit) l [1, 7, 8, 9] (fun don _ => [(1, .int .i64 n), (7, .sl (encI l) .free), (8, .int .i64 l.length), (9, .int .i64 don.length)]) (fun _ => h) (fun don _ _ => n ∉ don) () ?_ rfl (by simp) Ty.mixed (by kernel_rfl) ?_ ?_
  · simp (disch := omega) only [go_sem, seval, List.length_nil]
  · rintro don x r _ hdn hI
    have hln : l.length = don.length + 1 + r.length := by rw [hdn]; simp; omega
    have e1 : (encI l)[don.length]? = some (.int .i64 x) := by rw [hdn]; exact encI_get don r x
    simp (disch := omega) only [go_sem, seval, encI_len]
    refine aIf.pos (by omega) ?_
    simp (disch := omega) only [go_sem, seval, e1, encI_len]
    refine aIf.intro (fun h2 => ?_) (fun h2 => ?_) <;> simp (disch := omega) only [go_sem, seval]
    · rw [decide_eq_true (by rw [hdn, h2]; simp)]
    · refine roundL_next () ?_ ?_ rfl
      · intro e
        rcases List.mem_append.1 e with e | e
        · exact hI e
        · rw [List.mem_singleton] at e; exact h2 e.symm
      · simp (disch := omega) only [go_sem, seval, List.length_append]
  · rintro _ hI
    simp (disch := omega) only [go_sem, seval]
    refine AWP.keep [] (aCode_ok Ty.mixed _ _ _ _ (by kernel_rfl) ?_)
    simp (disch := omega) only [go_sem, seval]
    rw [decide_eq_false hI]
theorem jud_old {l : List Vs} {begun at_ kn : Int} (hG : VsG l) (hb : begun ≤ at_) {y : Vs} (hy : forceV at_ kn l = some y) (h1 : y.p.mode = 1) : (forceV begun kn l = none → (judF l begun at_ kn).1 = []) ∧ ∀ z, forceV begun kn l = some z → (judF l begun at_ kn).1 = [z.no] := by
  obtain ⟨h0, hm, _⟩ := met_some hG hb hy
  obtain ⟨f1, f2⟩ := met_first (at_ := at_) (kn := kn) hG hb
  have e : (judF l begun at_ kn).1 = So.sortI ((jdgF 1 (decide (begun ∈ keysF l begun at_ kn)) (metV l begun at_ kn)).map Vs.no) := by
    rw [judF, if_neg h0, hm, h1]
  rw [e, jdgF, if_pos rfl]
  refine ⟨fun hn => ?_, fun z hz => ?_⟩
  · have : begun ∉ keysF l begun at_ kn := fun e => by have := f1.1 e; rw [hn] at this; cases this
    rw [decide_eq_false this]; rfl
  · rw [decide_eq_true (f1.2 (by rw [hz]; rfl)), if_pos rfl, f2 z hz]; rfl
theorem jud_new {l : List Vs} {begun at_ kn : Int} (hG : VsG l) (hb : begun ≤ at_) {y : Vs} (hy : forceV at_ kn l = some y) (h1 : y.p.mode = 2) : (judF l begun at_ kn).1 = [y.no] := by
  obtain ⟨h0, hm, h2⟩ := met_some hG hb hy
  have e : (judF l begun at_ kn).1 = So.sortI ((jdgF 2 (decide (begun ∈ keysF l begun at_ kn)) (metV l begun at_ kn)).map Vs.no) := by
    rw [judF, if_neg h0, hm, h1]
  rw [e, jdgF, if_neg (by decide), if_pos rfl, h2]; rfl
/-- The own mode of the version in force, as the law finds it. -/
def ownM (now : Int) (l : List Vs) (o : Int) : Int := l.foldl (fun o x => if x.no = now then x.p.mode else o) o
theorem ownM_no {now : Int} : ∀ {l : List Vs} {o : Int}, (∀ x ∈ l, x.no ≠ now) → ownM now l o = o
  | [], _, _ => rfl
  | x :: r, o, h => by
    rw [ownM, List.foldl_cons, if_neg (h x (by simp))]
    exact ownM_no (l := r) fun y hy => h y (by simp [hy])
theorem ownM_eq {l : List Vs} (hG : VsG l) {y : Vs} (hy : y ∈ l) (o : Int) : ownM y.no l o = y.p.mode := by
  obtain ⟨a, b, rfl⟩ := List.append_of_mem hy
  have hp := hG.inc
  rw [List.pairwise_append] at hp
  have h2 := (List.pairwise_cons.1 hp.2.1).1
  rw [ownM, List.foldl_append, List.foldl_cons, if_pos rfl]
  refine ownM_no fun x hx e => ?_
  have := h2 x hx
  omega
set_option maxHeartbeats 3200000 in
set_option maxRecDepth 100000 in
theorem lawForce_calls (Γ : Nat → Option (List AV)) (hΓ : Γ 0 = some kindsC) (l : List Vs) (begun at_ kn t : Int) (h : AH) (F : FwV l) :
    ACalls Tryd.prog Γ 6 [.sl (l.map encV) .free, .int .i64 begun, .int .i64 at_, .int .i64 kn, .int .i64 t] h fun v h' => h' = h ∧ v = .bool true := by
  refine ACalls.drop ?_
  refine acalls_code (rs := [.tmp 10]) Tryd.func6 rfl rfl rfl rfl Ty.mixed (by kernel_rfl) ?_
  simp (disch := omega) only [go_sem, seval]
  refine ACalls.det (sane27_calls Γ hΓ _) ?_
  simp (disch := omega) only [go_sem, seval]
  refine ACalls.det (fewV_calls Γ l _ F.n F.sh) ?_
  cases hf : fewVF l <;> simp (disch := omega) only [go_sem, seval]
  obtain ⟨C, hc⟩ := few_vsC F hf
  have hlen := judges_len (begun := begun) (at_ := at_) (kn := kn) hc
  refine ACalls.det (judges0_calls Γ hΓ l begun at_ kn _ C hc) ?_
  simp (disch := omega) only [go_sem, seval]
  refine aIf.intro (fun h3 => ?_) (fun h3 => ?_) <;> simp (disch := omega) only [go_sem, seval, encI_len]
  rotate_left
  · rw [judges_bad h3]
    refine aIf.pos rfl ?_
    simp (disch := omega) only [go_sem, seval]
  obtain ⟨h0, ⟨t1, t2, t3, t4⟩, hj⟩ := judges_ok h3
  have hG := chkAll_ok h0
  have cs := fun t h => standing_calls Γ hΓ l t kn h C
  have st := fun t ht => stand_ok (t := t) (kn := kn) h0 ht t3
  have ca := fun h => cs at_ h
  have cb := fun h => cs begun h
  rw [st _ t2] at ca
  rw [st _ t1] at cb
  rw [hj] at hlen ⊢
  have hl12 := hc h0
  refine ACalls.det (ca _) ?_
  simp (disch := omega) only [go_sem, seval]
  refine ACalls.det (cb _) ?_
  simp (disch := omega) only [go_sem, seval]
  cases hfa : forceV at_ kn l with
  | none =>
    have hm := (met_none (begun := begun) hG t4).2 hfa
    rw [judF, if_pos hm]
    simp (disch := omega) only [go_sem, seval, Option.isSome_none]
    refine aIf.pos rfl ?_
    simp (disch := omega) only [go_sem, seval]
  | some y =>
    obtain ⟨m0, m1, m2⟩ := met_some hG t4 hfa
    have hy := (force_mem hfa).1
    have hmo : (judF l begun at_ kn).2 = y.p.mode := by rw [judF, if_neg m0, m1]
    rw [hmo]
    have hno : noO (some y) = y.no := rfl
    rw [hno]
    simp (disch := omega) only [go_sem, seval, Option.isSome_some]
    obtain ⟨N, hN⟩ : ∃ N, N = (judF l begun at_ kn).1 := ⟨_, rfl⟩
    rw [← hN] at hlen ⊢
    obtain ⟨ob, hob⟩ : ∃ ob, ob = forceV begun kn l := ⟨_, rfl⟩
    rw [← hob]
    refine awp_loopL (β := AH) l [0, 1, 2, 3, 4, 11, 12, 14, 17, 18, 20, 88, 89, 90] (fun don b => [(0, .sl (l.map encV) .free), (1, .int .i64 begun), (2, .int .i64 at_), (3, .int .i64 kn), (4, .int .i64 t), (11, .sl (encI N) .free), (12, .int .i64 y.p.mode), (14, .int .i64 y.no), (17, .int .i64 (noO ob)), (18, .bool ob.isSome), (20, .int .i64 (ownM y.no don 0)), (88, .sl (l.map encV) .free), (89, .int .i64 l.length), (90, .int .i64 don.length)]) (fun b => h ++ b) (fun _ _ _ => True) [] ?_ (by simp) trivial Ty.mixed (by kernel_rfl) ?_ ?_
    · simp (disch := omega) only [go_sem, seval, List.length_nil, List.length_map]
      rfl
    · rintro don x r X hdn -
      have hln : l.length = don.length + 1 + r.length := by rw [hdn]; simp; omega
      have e1 : (l.map encV)[don.length]? = some (encV x) := by rw [hdn]; exact rowMid ..
      have eo : ownM y.no (don ++ [x]) 0 = if x.no = y.no then x.p.mode else ownM y.no don 0 := by simp [ownM]
      rw [encV_eq] at e1
      simp (disch := omega) only [go_sem, seval, List.length_map]
      refine aIf.pos (by omega) ?_
      simp (disch := omega) only [go_sem, seval, e1, List.length_map]
      refine aIf.intro (fun h5 => ?_) (fun h5 => ?_) <;> simp (disch := omega) only [go_sem, seval]
      · rw [if_pos h5] at eo
        refine roundL_next (X ++ [rowV x]) trivial ?_ (by simp [rowV])
        simp (disch := omega) only [go_sem, seval, List.length_append, eo]
      · rw [if_neg h5] at eo
        refine roundL_next (X ++ [rowV x]) trivial ?_ (by simp [rowV])
        simp (disch := omega) only [go_sem, seval, List.length_append, eo]
    · rintro X -
      simp (disch := omega) only [go_sem, seval, List.length_map]
      refine AWP.keep [0, 1, 2, 3, 4, 11, 12, 14, 17, 18, 20] ?_
      rw [ownM_eq hG hy 0]
      refine awp_seq (aCode_ok Ty.mixed _ _ _ _ (by kernel_rfl) ?_)
      simp (disch := omega) only [go_sem, seval]
      refine awp_seq (aCode_ok Ty.mixed _ _ _ _ (by kernel_rfl) ?_)
      simp (disch := omega) only [go_sem, seval]
      refine aIf.intro (fun h5 => ?_) (fun h5 => ?_) <;> simp (disch := omega) only [go_sem, seval]
      · obtain ⟨o1, o2⟩ := jud_old hG t4 hfa h5
        cases hb : ob with
        | none =>
          rw [hN, o1 (by rw [← hob, hb])]
          simp (disch := omega) only [go_sem, seval, Option.isSome_none]
          rfl
        | some z =>
          rw [hN, o2 z (by rw [← hob, hb])]
          simp (disch := omega) only [go_sem, seval, Option.isSome_some]
          have hno : noO (some z) = z.no := rfl
          rw [hno]
          refine ACalls.ofLoose (ACalls.det (sameInts_calls Γ [z.no] [z.no] _ (by simp) (by simp)) ?_) (by simp [looseL, loose, encI])
          simp only [decide_true]
          simp (disch := omega) only [go_sem, seval]
      refine aIf.intro (fun h6 => ?_) (fun h6 => ?_) <;> simp (disch := omega) only [go_sem, seval]
      · rw [hN, jud_new hG t4 hfa h6]
        refine ACalls.ofLoose (ACalls.det (sameInts_calls Γ [y.no] [y.no] _ (by simp) (by simp)) ?_) (by simp [looseL, loose, encI])
        simp only [decide_true]
        simp (disch := omega) only [go_sem, seval]
      obtain ⟨n1, n2⟩ := jud_all hG t4 hfa h5 h6
      rw [← hN] at n1 n2
      refine awp_seq (aCode_ok Ty.mixed _ _ _ _ (by kernel_rfl) ?_)
      simp (disch := omega) only [go_sem, seval]
      refine awp_gotU [0, 1, 2, 3, 4, 11, 14, 23] (fun σ hy => ∃ m own X', hy = h ++ X' ∧ OwnAt h X' m.length own ∧ MetM l begun at_ kn [] m ∧ σ = [(0, .sl (l.map encV) .free), (1, .int .i64 begun), (2, .int .i64 at_), (3, .int .i64 kn), (4, .int .i64 t), (11, .sl (encI N) .free), (14, .int .i64 y.no), (23, .sl (encI m) own)]) (aCode_ok Ty.mixed _ _ _ _ (by kernel_rfl) ?_) ?_
      · simp (disch := omega) only [go_sem, seval]
        cases hb : ob with
        | none =>
          simp (disch := omega) only [go_sem, seval, Option.isSome_none]
          refine ⟨[], .full, X, rfl, trivial, ⟨.nil, fun n => ?_, by simp⟩, rfl⟩
          rw [← hob, hb]; simp
        | some z =>
          have hno : noO (some z) = z.no := rfl
          rw [hno]
          simp (disch := omega) only [go_sem, seval, Option.isSome_some]
          rw [← encI_one]
          refine aAp_sl (K := h) (j := X) (rows := []) trivial (fun r hr => by cases hr) (rowsOK_I [z.no]) (by simp [encI]) (by simp [encI]) fun j' own' ho' hg => ?_
          simp (disch := omega) only [go_sem, seval]
          refine ⟨[z.no], own', j', rfl, by simpa [encI] using ho', ⟨by simp, fun n => ?_, by simp⟩, rfl⟩
          rw [← hob, hb, List.mem_singleton]
          constructor
          · rintro rfl; exact .inl ⟨z, rfl, rfl⟩
          · rintro (⟨w, e, rfl⟩ | ⟨x, hx, _⟩)
            · cases e; rfl
            · cases hx
      rintro σ hy ⟨m, own, X, rfl, hown, hM, rfl⟩
      refine aCode_ok Ty.mixed _ _ _ _ (by kernel_rfl) ?_
      simp (disch := omega) only [go_sem, seval]
      have tmF : ∀ x ∈ l, timeF x.tm = true := fun x hx => by have := hG.x x hx; rw [timeF]; exact decide_eq_true (by omega)
      refine awp_loopL (β := List Int × Abs.Own × AH) l [0, 1, 2, 3, 4, 11, 14, 23, 135, 136, 137] (fun don b => [(0, .sl (l.map encV) .free), (1, .int .i64 begun), (2, .int .i64 at_), (3, .int .i64 kn), (4, .int .i64 t), (11, .sl (encI N) .free), (14, .int .i64 y.no), (23, .sl (encI b.1) b.2.1), (135, .sl (l.map encV) .free), (136, .int .i64 l.length), (137, .int .i64 don.length)]) (fun b => h ++ b.2.2) (fun don _ b => OwnAt h b.2.2 b.1.length b.2.1 ∧ MetM l begun at_ kn don b.1) (m, own, X) ?_ rfl ⟨hown, hM⟩ Ty.mixed (by kernel_rfl) ?_ ?_
      · simp (disch := omega) only [go_sem, seval, List.length_nil]
      · rintro don x r ⟨m, own, X⟩ hdn ⟨hown, hM⟩
        simp only at hown hM ⊢
        have hln : l.length = don.length + 1 + r.length := by rw [hdn]; simp; omega
        have e1 : (l.map encV)[don.length]? = some (encV x) := by rw [hdn]; exact rowMid ..
        have hx : x ∈ l := by rw [hdn]; simp
        have hmn := hM.n
        rw [encV_eq] at e1
        simp (disch := omega) only [go_sem, seval, List.length_map]
        refine aIf.pos (by omega) ?_
        simp (disch := omega) only [go_sem, seval, e1, List.length_map]
        refine aIf.intro (fun k1 => ?_) (fun k1 => ?_) <;> simp (disch := omega) only [go_sem, seval]
        rotate_left
        · refine roundL_next (m, own, X ++ [rowV x]) ⟨hown.app _, hM.skip fun w e => absurd e k1⟩ ?_ (by simp [rowV])
          simp (disch := omega) only [go_sem, seval, List.length_append]
        refine aIf.intro (fun k2 => ?_) (fun k2 => ?_) <;> simp (disch := omega) only [go_sem, seval]
        rotate_left
        · refine roundL_next (m, own, X ++ [rowV x]) ⟨hown.app _, hM.skip fun w _ e => absurd e k2⟩ ?_ (by simp [rowV])
          simp (disch := omega) only [go_sem, seval, List.length_append]
        have cx := fun h => cs x.tm h
        rw [st _ (tmF x hx)] at cx
        refine ACalls.det (cx _) ?_
        simp (disch := omega) only [go_sem, seval]
        cases hfx : forceV x.tm kn l with
        | none =>
          simp (disch := omega) only [go_sem, seval, Option.isSome_none]
          refine roundL_next (m, own, X ++ [rowV x]) ⟨hown.app _, hM.skip fun w _ _ e => by rw [hfx] at e; cases e⟩ ?_ (by simp [rowV])
          simp (disch := omega) only [go_sem, seval, List.length_append]
        | some w =>
          have hno : noO (some w) = w.no := rfl
          rw [hno]
          simp (disch := omega) only [go_sem, seval, Option.isSome_some]
          refine ACalls.ofLoose (ACalls.det (has27_calls Γ m w.no _ (by omega)) ?_) (by simp [looseL, loose, loose_I])
          cases hmw : decide (w.no ∈ m) <;> simp (disch := omega) only [go_sem, seval]
          · rw [← encI_one]
            refine aAp_sl (by rw [encI_len]; exact hown.app _) (rowsOK_I _) (rowsOK_I [w.no]) (by simp [encI_len]; omega) (by simp [encI_len]; omega) fun j' own' ho' hg => ?_
            simp (disch := omega) only [go_sem, seval]
            refine roundL_next (m ++ [w.no], own', j') ⟨?_, hM.add k1 k2 hfx (of_decide_eq_false hmw)⟩ ?_ rfl
            · simpa [encI_len] using ho'
            · simp (disch := omega) only [go_sem, seval, List.length_append, ← So.encI_app2]
          · refine roundL_next (m, own, X ++ [rowV x]) ⟨hown.app _, hM.skip fun w' _ _ e => ?_⟩ ?_ (by simp [rowV])
            · rw [hfx] at e; cases e; exact of_decide_eq_true hmw
            · simp (disch := omega) only [go_sem, seval, List.length_append]
      · rintro ⟨m, own, X⟩ ⟨hown, hM⟩
        simp only at hown hM ⊢
        simp (disch := omega) only [go_sem, seval, List.length_map]
        refine AWP.keep [0, 1, 2, 3, 4, 11, 14, 23] (aCode_ok Ty.mixed _ _ _ _ (by kernel_rfl) ?_)
        have hmem : ∀ n, n ∈ m ↔ n ∈ N := fun n => by
          rw [n2, met_no hG, hM.mem]
          exact or_congr ⟨fun ⟨y, a, b⟩ => ⟨y, t4, a, b⟩, fun ⟨y, _, a, b⟩ => ⟨y, a, b⟩⟩ Iff.rfl
        have hNn : N.Nodup := n1.imp fun h => by omega
        have hml : m.length = N.length := (perm_ext hM.nd hNn hmem).length_eq
        have hyN : y.no ∈ N := (n2 _).2 (met_at hG ⟨t4, Int.le_refl _⟩ hfa)
        simp (disch := omega) only [go_sem, seval, encI_len]
        refine aIf.pos (by omega) ?_
        simp (disch := omega) only [go_sem, seval]
        refine ACalls.det (has27_calls Γ N y.no _ (by omega)) ?_
        rw [decide_eq_true hyN]
        simp (disch := omega) only [go_sem, seval, encI_len]
        refine awp_loopL (β := Unit) N [0, 1, 2, 3, 4, 11, 23, 185, 186, 187] (fun don _ => [(0, .sl (l.map encV) .free), (1, .int .i64 begun), (2, .int .i64 at_), (3, .int .i64 kn), (4, .int .i64 t), (11, .sl (encI N) .free), (23, .sl (encI m) own), (185, .sl (encI N) .free), (186, .int .i64 N.length), (187, .int .i64 don.length)]) (fun _ => h ++ X) (fun _ _ _ => True) () ?_ rfl trivial Ty.mixed (by kernel_rfl) ?_ ?_
        · simp (disch := omega) only [go_sem, seval, List.length_nil]
        · rintro don n r _ hdn -
          have hln : N.length = don.length + 1 + r.length := by rw [hdn]; simp; omega
          have e1 : (encI N)[don.length]? = some (.int .i64 n) := by rw [hdn]; exact encI_get don r n
          have hnN : n ∈ N := by rw [hdn]; simp
          simp (disch := omega) only [go_sem, seval, encI_len]
          refine aIf.pos (by omega) ?_
          simp (disch := omega) only [go_sem, seval, e1, encI_len]
          refine ACalls.ofLoose (ACalls.det (has27_calls Γ m n _ (by omega)) ?_) (by simp [looseL, loose, loose_I])
          rw [decide_eq_true ((hmem n).2 hnN)]
          simp (disch := omega) only [go_sem, seval]
          refine aIf.intro (fun k1 => ?_) (fun k1 => ?_) <;> simp (disch := omega) only [go_sem, seval]
          · have hd1 : ((don.length : Int) - 1).toNat = don.length - 1 := by omega
            obtain ⟨a, ha⟩ : ∃ a, N[don.length - 1]? = some a := ⟨N[don.length - 1]'(by omega), List.getElem?_eq_getElem _⟩
            have e2 : (encI N)[don.length - 1]? = some (.int .i64 a) := by rw [encI, List.getElem?_map, ha]; rfl
            have e3 : N[don.length]? = some n := by rw [hdn]; simp
            have han : a < n := by
              obtain ⟨p1, p2⟩ := List.getElem?_eq_some_iff.1 ha
              obtain ⟨q1, q2⟩ := List.getElem?_eq_some_iff.1 e3
              have := List.pairwise_iff_getElem.1 n1 (don.length - 1) don.length p1 q1 (by omega)
              omega
            rw [hd1]
            simp (disch := omega) only [go_sem, seval, e2, encI_len]
            refine ⟨by omega, aIf.neg (by omega) ?_⟩
            simp (disch := omega) only [go_sem, seval]
            refine roundL_next () trivial ?_ rfl
            simp (disch := omega) only [go_sem, seval, List.length_append]
          · refine roundL_next () trivial ?_ rfl
            simp (disch := omega) only [go_sem, seval, List.length_append]
        · rintro _ -
          simp (disch := omega) only [go_sem, seval]
          refine AWP.keep [0, 1, 2, 3, 4, 11] (aCode_ok Ty.mixed _ _ _ _ (by kernel_rfl) ?_)
          simp (disch := omega) only [go_sem, seval]
          refine aIf.intro (fun k1 => ?_) (fun k1 => ?_) <;> simp (disch := omega) only [go_sem, seval]
          refine aIf.intro (fun k2 => ?_) (fun k2 => ?_) <;> simp (disch := omega) only [go_sem, seval]
          have htm : timeF t = true := by
            rw [timeF, decide_eq_true_eq] at t1 t2 ⊢; omega
          have cx := fun h => cs t h
          rw [st _ htm] at cx
          refine ACalls.det (cx _) ?_
          simp (disch := omega) only [go_sem, seval]
          cases hft : forceV t kn l with
          | none => simp (disch := omega) only [go_sem, seval, Option.isSome_none]
          | some w =>
            have hno : noO (some w) = w.no := rfl
            rw [hno]
            simp (disch := omega) only [go_sem, seval, Option.isSome_some]
            refine ACalls.det (has27_calls Γ N w.no _ (by omega)) ?_
            rw [decide_eq_true ((n2 _).2 (met_at hG ⟨k1, k2⟩ hft))]
            simp (disch := omega) only [go_sem, seval]
end Go.Proofs.YtjdhgaflenhljaaDoor
