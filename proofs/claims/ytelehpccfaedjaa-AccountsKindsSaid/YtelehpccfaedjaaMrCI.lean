/- Texts joined: AccZa. No conditions. -/
import Derived.Test.YtelehpccfaedjaaMrCH
import Derived.Test.YtelehpccfaedjaaMrY
/- AccountsKinds: the plain law, and the code. No conditions. -/
set_option linter.unusedSimpArgs false
set_option linter.unusedVariables false
namespace Go.Abs
open Go Go.RowKit
/-- **An array of one's own lent to a callee that reads it alone**: what it hands back holds no place. -/
theorem ACalls.lent {P : Program} {Γ : Nat → Option (List AV)} {h : AH} {f : FuncId} {a0 bs : List AV} {i : Nat} {cs : List AV} {T : TypeId} {v0 : AV} {R : AV → AH → Prop} (H : ACalls P (fun _ => none) f bs [] fun v h' => h' = [] ∧ v = v0)
    (hi : h[i]? = some (.row cs T)) (e : fzL i cs a0 = bs) (hb : RBs 0 bs) (hs : ∀ (G G' : Gh) (u : Value), VR G v0 u → VR G' v0 u) (hR : R v0 h) : ACalls P Γ f a0 h R :=
  ⟨H.1, fun G w vs hI hv => by
    obtain ⟨b, vals, q1, q2, q3⟩ := hI.freeze hi (Froze.set hi)
    have a1 : VRs (G.fixed b vals) bs vs := by
      subst e
      refine ⟨by rw [fzL_map, List.length_map]; exact hv.1, fun j c ec => ?_⟩
      rw [fzL_map, List.getElem?_map] at ec
      obtain ⟨c0, h0, rfl⟩ := Option.map_eq_some_iff.1 ec
      exact q3 _ _ (hv.2 j c0 h0)
    have hle : Gh.le ⟨w, ((G.fixed b vals).cut 0).ρ, ((G.fixed b vals).cut 0).F, ((G.fixed b vals).cut 0).ar, fun _ => none, fun _ => False⟩ (gh0 w) :=
      ⟨rfl, fun i b' e => absurd (Gh.of_cut_ρ (show ((G.fixed b vals).cut 0).ρ i = some b' from e)).2 (by omega), fun b' o v e => q2.fix b' o v e,
        fun i r e => absurd (Gh.of_cut_ar (show ((G.fixed b vals).cut 0).ar i = some r from e)).2 (by omega), fun _ _ e => (by cases e), fun _ e => (e : False).elim, fun _ _ e => (by cases e)⟩
    have a2 : VRs (gh0 w) bs vs := ⟨a1.1, fun j c ec => (VR.same (G := (G.fixed b vals).cut 0) (G' := ⟨w, ((G.fixed b vals).cut 0).ρ, ((G.fixed b vals).cut 0).F, ((G.fixed b vals).cut 0).ar, fun _ => none, fun _ => False⟩) rfl rfl rfl ((a1.2 j c ec).cut (hb j c ec))).mono hle⟩
    refine (H.2 (gh0 w) w vs (inv0 w) a2).mono fun ex w' hr => ?_
    obtain ⟨v, G', av, h', rfl, k1, k2, k3, _, rfl⟩ := hr
    have hbel : Below w.heap.size w w' := by have := k2.below; rw [k1.w0] at this; exact this
    have hdr : w.drawn ≤ w'.drawn := by have := k2.drw; rw [k1.w0] at this; exact this
    exact ⟨v, G, _, h, rfl, Gh.le.refl G, hI.later hbel.size hbel.os hbel.tape hbel.output hbel.block hdr, hs _ _ _ k3, hR⟩⟩
end Go.Abs
namespace Go.Proofs.Ytelehpccfaedjaa
open Go Go.Proofs Go.Abs

def withK (b : Bg) (k : Int) : Bg := { b with kind := k }
theorem ordB_swap {b b' : Bg} (h1 : rightB b' = rightB b) (h2 : b'.no = b.no) : ∀ (a r : List Bg) (n : Int), ordB n (a ++ b' :: r) = ordB n (a ++ b :: r)
  | [], r, n => by simp only [List.nil_append, ordB, h1, h2]
  | x :: a, r, n => by simp only [List.cons_append, ordB, ordB_swap h1 h2 a r x.no]
theorem errA_swap {b b' : Bg} (h1 : rightB b' = rightB b) (h2 : b'.no = b.no) (a r : List Bg) (u : List Us) : errA (a ++ b' :: r) u = errA (a ++ b :: r) u := by
  have : checkB (a ++ b' :: r) = checkB (a ++ b :: r) := by
    rw [checkB, checkB, ordB_swap h1 h2]
    simp
  rw [errA, errA, this]
theorem rightB_kind {b : Bg} (h : rightB b = true) {k : Int} (h1 : -1 ≤ k) (h2 : k ≤ 15) : rightB (withK b k) = rightB b := by
  rw [h]
  have e : rightB b = (inR b.no 0 1048576 && inR b.at_ 0 (END - 1) && inR b.known 0 (END - 1) && inR b.kind (-1) 15 && inR b.period 1 END && (if b.gone then inR b.count 0 0 && inR b.value 0 0 else inR b.count 0 1048576 && inR b.value 0 END)) := rfl
  have e' : rightB (withK b k) = (inR b.no 0 1048576 && inR b.at_ 0 (END - 1) && inR b.known 0 (END - 1) && inR k (-1) 15 && inR b.period 1 END && (if b.gone then inR b.count 0 0 && inR b.value 0 0 else inR b.count 0 1048576 && inR b.value 0 END)) := rfl
  have hk : inR k (-1) 15 = true := by simp only [inR, Bool.and_eq_true, decide_eq_true_eq]; omega
  rw [e] at h
  rw [e', hk]
  simp only [Bool.and_eq_true] at h ⊢
  obtain ⟨⟨⟨⟨⟨a1, a2⟩, a3⟩, _⟩, a4⟩, a5⟩ := h
  exact ⟨⟨⟨⟨⟨a1, a2⟩, a3⟩, trivial⟩, a4⟩, a5⟩
/-- What uses count in the period, up to the time, whatever their kind. -/
def anyK (b : Bg) (at_ known : Int) (x : Us) : Bool := decide (x.known ≤ known) && decide (x.at_ / b.period = at_ / b.period) && decide (x.at_ ≤ at_)
theorem spent_kind (b : Bg) (u : List Us) (at_ known k : Int) (hk : k ≠ -1) : spentF (withK b k) u at_ known = sumP (fun x => anyK b at_ known x && decide (x.kind = k)) u := by
  rw [spentF]
  refine sumP_congr fun x _ => ?_
  show (((decide (x.known ≤ known) && (decide (k = -1) || decide (k = x.kind))) && decide (x.at_ / b.period = at_ / b.period)) && decide (x.at_ ≤ at_)) = _
  rw [decide_eq_false hk, anyK, show decide (k = x.kind) = decide (x.kind = k) from by rw [decide_eq_decide]; exact eq_comm]
  cases decide (x.known ≤ known) <;> cases decide (x.kind = k) <;> cases decide (x.at_ / b.period = at_ / b.period) <;> cases decide (x.at_ ≤ at_) <;> rfl
theorem spent_all (b : Bg) (u : List Us) (at_ known : Int) : spentF (withK b (-1)) u at_ known = sumP (anyK b at_ known) u := by
  rw [spentF]
  refine sumP_congr fun x _ => ?_
  show (((decide (x.known ≤ known) && (decide ((-1 : Int) = -1) || decide ((-1 : Int) = x.kind))) && decide (x.at_ / b.period = at_ / b.period)) && decide (x.at_ ≤ at_)) = _
  rw [decide_eq_true rfl, anyK, Bool.true_or, Bool.and_true]
/-- What was spent of budgets for the kinds below one. -/
def belowK (b : Bg) (u : List Us) (at_ known : Int) (m : Nat) : Int × Int := sumP (fun x => anyK b at_ known x && decide (x.kind < m)) u
theorem belowK_zero {b : Bg} {u : List Us} {at_ known : Int} (hu : ∀ x ∈ u, rightU x = true) : belowK b u at_ known 0 = (0, 0) := sumP_none fun x hx => by
  have := rightU_facts (hu x hx)
  rw [decide_eq_false (by omega), Bool.and_false]
theorem belowK_succ (b : Bg) (u : List Us) (at_ known : Int) (m : Nat) : belowK b u at_ known (m + 1) = ((belowK b u at_ known m).1 + (spentF (withK b m) u at_ known).1, (belowK b u at_ known m).2 + (spentF (withK b m) u at_ known).2) := by
  rw [spent_kind b u at_ known m (by omega), belowK, belowK, ← sumP_or (p := fun x => anyK b at_ known x && decide (x.kind < m)) (q := fun x => anyK b at_ known x && decide (x.kind = m)) fun x ⟨h1, h2⟩ => by
    simp only [Bool.and_eq_true, decide_eq_true_eq] at h1 h2
    omega]
  refine sumP_congr fun x _ => ?_
  rw [← Bool.and_or_distrib_left, ← Bool.decide_or]
  congr 1
  rw [decide_eq_decide]; omega
theorem belowK_all {b : Bg} {u : List Us} {at_ known : Int} (hu : ∀ x ∈ u, rightU x = true) : belowK b u at_ known 16 = spentF (withK b (-1)) u at_ known := by
  rw [spent_all, belowK]
  refine sumP_congr fun x hx => ?_
  have := rightU_facts (hu x hx)
  rw [decide_eq_true (by omega), Bool.and_true]
theorem find_split (l : List Bg) (no : Int) : (findF l no = none ∧ bidI (bidx (isNo no) l) = -1) ∨ ∃ a b r, l = a ++ b :: r ∧ findF l no = some b ∧ bidI (bidx (isNo no) l) = a.length ∧ isNo no b = true ∧ ∀ y ∈ a, isNo no y = false := by
  cases h : l.find? (isNo no) with
  | none =>
    refine .inl ⟨h, ?_⟩
    rw [bidx_no _ l fun y hy => by simpa using List.find?_eq_none.1 h y hy]; rfl
  | some b =>
    obtain ⟨hb, a, r, rfl, ha⟩ := List.find?_eq_some_iff_append.1 h
    have ha' : ∀ y ∈ a, isNo no y = false := fun y hy => by simpa using ha y hy
    exact .inr ⟨a, b, r, rfl, h, by rw [bidx_at _ a b r ha' hb]; rfl, hb, ha'⟩
theorem fz_B (i : Nat) (cs : List AV) (l : List Bg) : fzL i cs (encBs l) = encBs l := fzL_maps _ (fun _ => rfl) l
theorem fz_U (i : Nat) (cs : List AV) (l : List Us) : fzL i cs (encUs l) = encUs l := fzL_maps _ (fun _ => rfl) l
theorem flat_B (b : Bg) (l : List Bg) : flat (encBs (b :: l)) = budC b ++ flat (encBs l) := rfl
theorem flatB_len : ∀ l : List Bg, (flat (encBs l)).length = l.length * 8
  | [] => rfl
  | b :: l => by rw [flat_B, List.length_append, flatB_len l, List.length_cons]; simp [budC]; omega
theorem rowsOf_B : ∀ (l : List Bg) (pad : List AV), rowsOf 8 l.length (flat (encBs l) ++ pad) = encBs l
  | [], _ => rfl
  | b :: l, pad => by
    rw [List.length_cons, rowsOf, flat_B, List.append_assoc]
    have e : (budC b ++ (flat (encBs l) ++ pad)).drop 8 = flat (encBs l) ++ pad := List.drop_left (l₁ := budC b)
    have e2 : (budC b ++ (flat (encBs l) ++ pad)).take 8 = budC b := List.take_left (l₁ := budC b)
    rw [e, e2, rowsOf_B l pad]
    rfl
theorem flatB_plain (l : List Bg) : ∀ c ∈ flat (encBs l), c.isAgg = false := by
  induction l with
  | nil => intro c hc; simp [encBs, flat] at hc
  | cons b l ih =>
    intro c hc
    rw [flat_B] at hc
    rcases List.mem_append.1 hc with hc | hc
    · simp only [budC, List.mem_cons, List.not_mem_nil, or_false] at hc
      rcases hc with rfl | rfl | rfl | rfl | rfl | rfl | rfl | rfl <;> rfl
    · exact ih c hc
theorem fz_bud (i c : Nat) (l : List Bg) (pad : List AV) (hc : l.length ≤ c) (hp : ∀ a ∈ pad, a.isAgg = false) : fzV i (flat (encBs l) ++ pad) (.ms i 0 l.length c 8) = .sl (encBs l) .free := by
  rw [fzV, if_pos, List.drop_zero, rowsOf_B]
  refine ⟨rfl, ?_⟩
  simp only [fzOK, Bool.and_eq_true, decide_eq_true_eq, bne_iff_ne, List.all_eq_true, Bool.not_eq_true', List.length_append, flatB_len]
  refine ⟨⟨⟨by omega, hc⟩, by decide⟩, fun a ha => ?_⟩
  rcases List.mem_append.1 ha with ha | ha
  · exact flatB_plain l a ha
  · exact hp a ha
theorem flatB_set (b : Bg) (k k' : Int) (r : List Bg) (pad : List AV) : ∀ (a : List Bg), (flat (encBs (a ++ withK b k :: r)) ++ pad).set (a.length * 8 + 3) (.int .i64 k') = flat (encBs (a ++ withK b k' :: r)) ++ pad
  | [] => rfl
  | x :: a => by
    have ih := flatB_set b k k' r pad a
    rw [List.cons_append, List.cons_append, flat_B, flat_B, List.append_assoc, List.append_assoc, List.set_append_right _ _ (by simp [budC]; omega)]
    have : (x :: a).length * 8 + 3 - (budC x).length = a.length * 8 + 3 := by simp [budC]; omega
    rw [this, ih]
theorem scal3 (x y z : Int) (G G' : Gh) (u : Value) (h : VR G (.tuple [.int .i64 x, .int .i64 y, .int .i64 z]) u) : VR G' (.tuple [.int .i64 x, .int .i64 y, .int .i64 z]) u := by
  cases h with
  | tuple hl hv =>
    refine .tuple hl fun j c e => ?_
    match j, e with
    | 0, e =>
      cases e
      rw [(hv 0 _ rfl).int_inv]; exact .int _ _
    | 1, e =>
      cases e
      rw [(hv 1 _ rfl).int_inv]; exact .int _ _
    | 2, e =>
      cases e
      rw [(hv 2 _ rfl).int_inv]; exact .int _ _
structure KdS where
  i : Nat
  k : Int
set_option maxHeartbeats 4000000 in
set_option maxRecDepth 100000 in
theorem accKinds_calls (Γ : Nat → Option (List AV)) (l : List Bg) (u : List Us) (no at_ known : Int) (h : AH) (hl : l.length ≤ 9223372036854775807) :
    ACalls Try.prog Γ 7 [.sl (encBs l) .free, .sl (encUs u) .free, .int .i64 no, .int .i64 at_, .int .i64 known] h fun v h' => h' = h ∧ v = .bool true := by
  have c0 := right53_calls (fun _ => none) l u [at_, known] [] (by simp)
  refine ACalls.drop ?_
  refine acalls_codeM (rs := [.tmp 10]) Try.func7 rfl rfl rfl rfl rfl Ty.mixed (by kernel_rfl) ?_
  simp (disch := omega) only [go_sem, seval]
  refine ACalls.det (sane53_calls Γ _) ?_
  simp (disch := omega) only [go_sem, seval]
  refine ACalls.det (rfind_calls Γ l no _ hl) ?_
  simp (disch := omega) only [go_sem, seval]
  refine ⟨by omega, rfl, by simp [AV.cells, AV.one], ?_⟩
  simp (disch := omega) only [go_sem, seval]
  refine ACalls.lent c0 (i := h.length) (cs := [.int .i64 at_, .int .i64 known]) (T := 3) ?_ ?_ ?_ (fun G G' u hu => by cases hu; exact .bool _) ?_
  · simp [flat, AV.cells]
  · have e3 : fzV h.length [.int .i64 at_, .int .i64 known] (.ms h.length 0 2 2 1) = .sl (encI [at_, known]) .free := by
      have := fz_own h.length 2 [at_, known] [] (by simp) (by simp)
      simpa [encI] using this
    show [AV.sl (fzL _ _ (encBs l)) .free, .sl (fzL _ _ (encUs u)) .free, fzV h.length [.int .i64 at_, .int .i64 known] (.ms h.length 0 2 2 1)] = _
    rw [fz_B, fz_U, e3]
  · exact RBs.cons (rb_Bs _ _) (RBs.cons (of_eq_true (rb_Us _ _)) (RBs.cons (of_eq_true (rb_I _ _)) (RBs.nil _)))
  cases hr : ([at_, known].all timeF && decide (l.length ≤ 20) && decide (u.length ≤ 20) && decide (errA l u = 0)) with
  | false => simp (disch := omega) only [go_sem, seval]
  | true =>
  simp (disch := omega) only [go_sem, seval]
  simp only [List.all_cons, List.all_nil, Bool.and_true, Bool.and_eq_true, decide_eq_true_eq] at hr
  obtain ⟨⟨⟨⟨ha, hk⟩, hl20⟩, hu20⟩, he⟩ := hr
  obtain ⟨k1, k2, k3, k4, k5, k6, k7⟩ := err0 he
  rcases find_split l no with ⟨f1, f2⟩ | ⟨a, b, r, f0, f1, f2, f3, f4⟩
  · rw [f2]
    simp (disch := omega) only [go_sem, seval]
  rw [f2]
  have hrb := k4 b (by rw [f0]; simp)
  have hal : l.length = a.length + 1 + r.length := by rw [f0]; simp; omega
  refine aIf.neg (by omega) ?_
  simp (disch := omega) only [go_sem, seval]
  refine ⟨by omega, rfl, by simp, ?_⟩
  simp (disch := omega) only [go_sem, seval]
  refine ⟨_, rfl, rowsOK_B l, rfl, by simp [encBs_len]; omega, by simp [encBs_len]; omega, by omega, ?_⟩
  have e0 : (h ++ [AObj.row (flat [.int .i64 at_, .int .i64 known]) 3, .row (flat []) 40])[h.length + 1]? = some (.row (flat []) 40) := by simp
  rw [e0]
  refine ⟨by simp [flat], fun hle => absurd hle (by rw [encBs_len]; omega), fun _ c hc => ?_⟩
  rw [encBs_len] at hc
  obtain ⟨pad, hpad⟩ : ∃ pad, pad = List.replicate ((c - (0 + (encBs l).length)) * 8) AV.top := ⟨_, rfl⟩
  have hpp : ∀ a ∈ pad, a.isAgg = false := fun a ha => by rw [hpad] at ha; rw [List.eq_of_mem_replicate ha]; rfl
  rw [← hpad]
  obtain ⟨K, hK⟩ : ∃ K : Int → AH, ∀ k, K k = h ++ [.row [.int .i64 at_, .int .i64 known] 3, .row [] 40, .row (flat (encBs (a ++ withK b k :: r)) ++ pad) 40] := ⟨_, fun _ => rfl⟩
  have Kx : ∀ k, (K k)[h.length + 2]? = some (.row (flat (encBs (a ++ withK b k :: r)) ++ pad) 40) := fun k => by rw [hK]; simp
  have Sx : ∀ k k', (K k).set (h.length + 2) (.row (flat (encBs (a ++ withK b k' :: r)) ++ pad) 40) = K k' := fun k k' => by rw [hK, hK, hset_add]; rfl
  have Kh : ∀ k, ∃ l, K k = h ++ l := fun k => ⟨_, hK k⟩
  have hbk : withK b b.kind = b := rfl
  have e9 : (h ++ [AObj.row (flat [.int .i64 at_, .int .i64 known]) 3, .row (flat []) 40] ++ [.row (List.take (0 * 8) (List.drop 0 (flat [])) ++ flat (encBs l) ++ pad) 40]) = K b.kind := by rw [hK, hbk, ← f0]; simp [flat, AV.cells]
  rw [e9, encBs_len, show (h ++ [AObj.row (flat [.int .i64 at_, .int .i64 known]) 3, .row (flat []) 40]).length = h.length + 2 from by simp]
  simp (disch := omega) only [go_sem, seval]
  have hmem : ∀ k, -1 ≤ k → k ≤ 15 → errA (a ++ withK b k :: r) u = 0 ∧ findF (a ++ withK b k :: r) no = some (withK b k) := fun k g1 g2 => by
    refine ⟨by rw [errA_swap (rightB_kind hrb g1 g2) rfl, ← f0]; exact he, ?_⟩
    refine List.find?_eq_some_iff_append.2 ⟨?_, a, r, rfl, fun y hy => by have := f4 y hy; rw [isNo] at this; rw [this]; rfl⟩
    exact f3
  have hsp : ∀ k, -1 ≤ k → k ≤ 15 → spentR (a ++ withK b k :: r) u no at_ known = ((spentF (withK b k) u at_ known).1, (spentF (withK b k) u at_ known).2, 0) := fun k g1 g2 => by
    obtain ⟨m1, m2⟩ := hmem k g1 g2
    rw [spentR, if_neg (by simpa using m1), m2]
    simp only [ha, hk, Bool.and_self, if_true]
  have hlk : ∀ k, (a ++ withK b k :: r).length = l.length := fun k => by rw [f0]; simp
  have c5 : ∀ k, -1 ≤ k → k ≤ 15 → ∀ R : AV → AH → Prop, R (.tuple [.int .i64 (spentF (withK b k) u at_ known).1, .int .i64 (spentF (withK b k) u at_ known).2, .int .i64 0]) (K k) → ACalls Try.prog Γ 15 [.ms (h.length + 2) 0 l.length c 8, .sl (encUs u) .free, .int .i64 no, .int .i64 at_, .int .i64 known] (K k) R := fun k g1 g2 R hR => by
    have := pSpent_calls (fun _ => none) (a ++ withK b k :: r) u no at_ known [] (by rw [hlk]; omega) (by omega)
    rw [hsp k g1 g2] at this
    refine ACalls.lent this (Kx k) ?_ ?_ (scal3 _ _ _) hR
    · have := fz_bud (h.length + 2) c (a ++ withK b k :: r) pad (by rw [hlk]; omega) hpp
      rw [hlk] at this
      show [fzV _ _ (.ms (h.length + 2) 0 l.length c 8), AV.sl (fzL _ _ (encUs u)) .free, .int .i64 no, .int .i64 at_, .int .i64 known] = _
      rw [this, fz_U]
    · exact RBs.cons (rb_Bs _ _) (RBs.cons (of_eq_true (rb_Us _ _)) (RBs.cons (.int _ _) (RBs.cons (.int _ _) (RBs.cons (.int _ _) (RBs.nil _)))))
  have hsum : ∀ m, 0 ≤ (belowK b u at_ known m).1 ∧ (belowK b u at_ known m).1 ≤ u.length ∧ 0 ≤ (belowK b u at_ known m).2 ∧ (belowK b u at_ known m).2 ≤ 1099511627776 * u.length := fun m => sum_facts k7
  refine awp_loopS (α := KdS) [1, 2, 3, 4, 11, 12, 13, 14, 41, 1000000] (fun s => [(1, .sl (encUs u) .free), (2, .int .i64 no), (3, .int .i64 at_), (4, .int .i64 known), (11, .int .i64 a.length), (12, .int .i64 (belowK b u at_ known s.i).1), (13, .int .i64 (belowK b u at_ known s.i).2), (14, .ms (h.length + 2) 0 l.length c 8), (41, .int .i64 s.i), (1000000, .tuple [])])
    (fun s => K s.k) (fun s => s.i ≤ 16) (fun s => 16 - s.i) ⟨0, b.kind⟩ ?_ rfl (by simp) Ty.mixed (by kernel_rfl) ?_
  · simp (disch := omega) only [go_sem, seval, belowK_zero k7, Nat.zero_add]
  · rintro ⟨i, k⟩ hi
    simp only at hi ⊢
    simp (disch := omega) only [go_sem, seval]
    refine aIf.intro (fun h1 => ?_) (fun h1 => ?_) <;> simp (disch := omega) only [go_sem, seval]
    · refine ⟨by omega, ?_⟩
      have hset := flatB_set b k i r pad a
      have hrl : a.length * 8 + 3 + 1 ≤ (flat (encBs (a ++ withK b k :: r)) ++ pad).length := by rw [List.length_append, flatB_len, hlk]; omega
      have q1 := hsum i
      have q2 := hsum (i + 1)
      have q3 := sum_facts (p := fun x => inP (withK b i) known (at_ / (withK b i).period) x && decide (x.at_ ≤ at_)) k7
      have q4 := belowK_succ b u at_ known i
      rw [q4] at q2
      rw [← spentF] at q3
      simp (disch := omega) only [go_sem, seval, Kx, Nat.zero_add]
      refine ⟨hrl, ?_⟩
      rw [hset, Sx]
      refine c5 i (by omega) (by omega) _ ?_
      generalize spentF (withK b i) u at_ known = s at *
      generalize belowK b u at_ known i = t at *
      obtain ⟨s1, s2⟩ := s
      obtain ⟨t1, t2⟩ := t
      simp only at q1 q2 q3 q4
      simp (disch := omega) only [go_sem, seval]
      refine roundS_next ⟨i + 1, i⟩ (by simp only; omega) (by simp only; omega) ?_ rfl
      simp only [q4]
      simp (disch := omega) only [go_sem, seval]
    · have hi16 : i = 16 := by omega
      subst hi16
      refine AWP.keep [1, 2, 3, 4, 11, 12, 13, 14, 1000000] (aCode_ok Ty.mixed _ _ _ _ (by kernel_rfl) ?_)
      have hset := flatB_set b k (-1) r pad a
      have hrl : a.length * 8 + 3 + 1 ≤ (flat (encBs (a ++ withK b k :: r)) ++ pad).length := by rw [List.length_append, flatB_len, hlk]; omega
      simp (disch := omega) only [go_sem, seval, Kx, Nat.zero_add]
      refine ⟨by omega, hrl, ?_⟩
      rw [hset, Sx]
      refine c5 (-1) (by omega) (by omega) _ ?_
      rw [← belowK_all k7]
      simp (disch := omega) only [go_sem, seval]
      exact Kh _
end Go.Proofs.Ytelehpccfaedjaa
