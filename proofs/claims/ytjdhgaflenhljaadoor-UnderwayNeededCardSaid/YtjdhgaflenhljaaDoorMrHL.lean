/- Texts joined: UnCp, UnQ. No conditions. -/
import Derived.Test.YtjdhgaflenhljaaDoorMrAAD
import Derived.Test.YtjdhgaflenhljaaDoorMrE
import Derived.Test.YtjdhgaflenhljaaDoorMrHJ
/- Copying from a list into an array of one's own, as the last operation of a region. It says nothing of any program; no conditions. -/
set_option linter.unusedSimpArgs false
set_option linter.unusedVariables false
namespace Go.Abs
open Go Go.RowKit

section
variable {P : Program} {Γ : Nat → Option (List AV)} {G : Gh} {h : AH} {w : World} {N : Nat} {σ : Tm} {Q : Exit → Tm → AH → Prop}
theorem VR.takeF {rows : List AV} {own : Own} {a : Option Addr} {len cap : Nat} (hv : VR G (.sl rows own) (.slice a len cap)) (m : Nat) (hm : m ≤ rows.length) : VR G (.sl (rows.take m) .free) (.slice a m cap) := by
  cases hv with
  | sl vals hcap hnil hsz hF hv hown =>
    have hg : ∀ (k : Nat) (r : AV), (rows.take m)[k]? = some r → rows[k]? = some r := fun k r e => by
      rw [List.getElem?_take] at e
      split at e
      · exact e
      · cases e
    have := VR.sl (G := G) (own := .free) (rows := rows.take m) (a := a) (cap := cap) vals (by rw [List.length_take]; omega) hnil (fun k r e => hsz k r (hg k r e)) (fun k r j c e => hF k r j c (hg k r e)) (fun k r j c e => hv k r j c (hg k r e)) trivial
    rwa [List.length_take, Nat.min_eq_left hm] at this
theorem copy_ok (hI : Inv Γ G h w) {t u ty e : TypeId} {n i off len cap : Nat} {rows : List AV} {own : Own} {vs vx : Value} (ht : P.underlying t = some (.slice e)) (hn : tsz P e = some n) (h0 : n ≠ 0) (hs : VR G (.ms i off len cap n) vs) (hx : VR G (.sl rows own) vx)
    {cs : List AV} {T : TypeId} (hrow : h[i]? = some (.row cs T)) (hfit : off + len * n ≤ cs.length) (hok : RowsOK n rows) {K : AV → AH → Prop} (H : K (.int .i64 (min rows.length len : Nat)) (h.set i (.row (splice cs off (flat (rows.take (min rows.length len)))) T))) :
    SemOK P Γ G w (Builtin.copy_ #[t, u] ty #[vs, vx]) K := by
  obtain ⟨b, vals, h1, h2, h3⟩ := hI.row hrow
  cases hs with
  | ms hb =>
    rw [h1] at hb; cases hb
    have hx' := hx
    cases hx with
    | sl svals hcap hnil hsz hF hv hown =>
      rename_i a scap sz
      obtain ⟨m, hm⟩ : ∃ m, m = min rows.length len := ⟨_, rfl⟩
      rw [← hm] at H
      have hml : m ≤ rows.length := by omega
      have hxt := hx'.takeF m hml
      have hokt : RowsOK n (rows.take m) := fun r hr => hok r (List.mem_of_mem_take hr)
      obtain ⟨news, q1, q2, q3⟩ := hxt.flatCells (P := P) hI (fun r hr => (hokt r hr).1)
      have hlt : (rows.take m).length = m := by rw [List.length_take]; omega
      rw [hlt] at q1 q3
      have hfl : (flat (rows.take m)).length = m * n := by rw [flat_length (fun r hr => (hokt r hr).1), hlt]
      have hnone : ∀ v ∈ news, v.oneCell' = true := by
        have := q2.oneCells (fun c hc => by
          simp only [flat, List.mem_flatMap] at hc
          obtain ⟨r, hr, hc⟩ := hc
          exact (hokt r hr).2 c hc)
        simpa using this
      have hmn : m * n ≤ len * n := Nat.mul_le_mul_right _ (by omega)
      have hnl : off + 0 + news.length ≤ vals.toList.length := by
        have h31 := h3.1
        have h32 : vals.toList.length = vals.size := Array.length_toList
        rw [h32, q1]; omega
      have hst := run_storeCells_at P b off T news 0 vals w h2 hnl hnone
      simp only [Nat.add_zero] at hst
      have hfc : (Builtin.firstCells n m (.slice a rows.length scap)).run P w = .ok news.toArray w := by
        have := q3 w rfl
        cases a <;> simpa [Builtin.firstCells] using this
      have hmm : Nat.min rows.length len = m := hm.symm
      refine ⟨goInt m, _, G, _, _, ?_, Gh.le.refl G, hI.putRow hrow (o := off) (xs := flat (rows.take m)) (by rw [hfl]; omega) (news := news) q2 h1 h2 h3, ?_, H⟩
      rotate_left
      · exact .int _ _
      · simp [Builtin.copy_, run_underlying ht, run_sizeOf' hn, Builtin.lenOf, hmm, hfc, hst]
theorem copy_ok0 (hI : Inv Γ G h w) {t u ty e : TypeId} {n : Nat} {rows : List AV} {own own' : Own} {vs vx : Value} (ht : P.underlying t = some (.slice e)) (hn : tsz P e = some n) (hs : VR G (.sl [] own') vs) (hx : VR G (.sl rows own) vx)
    {K : AV → AH → Prop} (H : K (.int .i64 0) h) : SemOK P Γ G w (Builtin.copy_ #[t, u] ty #[vs, vx]) K := by
  cases hs with
  | sl vals hcap hnil hsz hF hv hown =>
    cases hx with
    | sl svals scap snil ssz sF sv sown =>
      rename_i a1 cap1 _ a2 cap2 _
      refine ⟨goInt 0, w, G, _, _, ?_, Gh.le.refl G, hI, .int _ _, H⟩
      have hmm : Nat.min rows.length 0 = 0 := Nat.min_eq_right (Nat.zero_le _)
      have hfc : (Builtin.firstCells n 0 (.slice a2 rows.length cap2)).run P w = .ok #[] w := by
        cases a2 <;> simp [Builtin.firstCells, loadCells, loadCellsFrom]
      cases a1 <;> simp [Builtin.copy_, run_underlying ht, run_sizeOf' hn, Builtin.lenOf, hmm, hfc, storeCells]
theorem fm_congr {α β : Type} {f g : α → Option β} : ∀ {l : List α}, (∀ x ∈ l, f x = g x) → l.filterMap f = l.filterMap g
  | [], _ => rfl
  | x :: r, h => by
    rw [List.filterMap_cons, List.filterMap_cons, h x (by simp), fm_congr (l := r) fun y hy => h y (by simp [hy])]
theorem aOps_upto {ops : Array Oper} {K : Tm → AH → Prop} {G0 : Gh} {ds : List Deferred} {r : Option Nat} {l2 : List Nat} {QQ : Exit → Act → World → Prop} (fin : ∀ (σ : Tm) (h : AH) (G : Gh) (w : World) (a : Act), G0.le G → Inv Γ G h w → TR N G σ a.tmps → a.defers = ds → K σ h → wpOpsIn (Fr r) 0 P ops QQ l2 a w) :
    ∀ (l : List Nat) (σ : Tm) (h : AH) (G : Gh) (w : World) (a : Act), (∀ i ∈ l, ∀ o, ops[i]? = some o → o.guard = none ∧ ∀ x, o.dst = some x → x < N) →
    G0.le G → Inv Γ G h w → TR N G σ a.tmps → a.defers = ds → aOps P Γ ops.toList K (l.filterMap (ops[·]?)) σ h → wpOpsIn (Fr r) 0 P ops QQ (l ++ l2) a w := by
  intro l
  induction l with
  | nil =>
    intro σ h G w a _ hle hI ht hd H
    exact fin σ h G w a hle hI ht hd H
  | cons i rest ih =>
    intro σ h G w a hdst hle hI ht hd H
    rw [List.cons_append, wpOpsIn_cons]
    unfold wpOpIn
    cases ho : ops[i]? with
    | none =>
      simp only [List.filterMap_cons, ho] at H
      exact ih σ h G w a (fun j hj => hdst j (List.mem_cons_of_mem _ hj)) hle hI ht hd H
    | some o =>
      simp only [List.filterMap_cons, ho] at H
      obtain ⟨hg, hdo⟩ := hdst i (List.mem_cons_self ..) o ho
      simp only [aOps, hg] at H
      unfold Region.wanted
      simp only [hg, if_true]
      exact aOper_ok hI ht H fun u v G' h' w' h1 h2 h3 h4 => by
        exact ih _ h' G' w' _ (fun j hj => hdst j (List.mem_cons_of_mem _ hj)) (hle.trans h1) h2 ((ht.mono h1).put hdo h3) ((put_defers a o.dst u).trans hd) h4
/-- What the last operation of a region leaves. -/
def LastOK (P : Program) (Γ : Nat → Option (List AV)) (N : Nat) (o : Oper) (Q : Exit → Tm → AH → Prop) (σ : Tm) (h : AH) : Prop :=
  ∀ (G : Gh) (w : World) (a : Act), Inv Γ G h w → TR N G σ a.tmps → StepOK P Γ G w (execOp a.eval o) fun v h' => Q .normal (put o.dst v σ) h'
/-- **A region whose last operation is known by itself.** -/
theorem awp_region_last {id k : Nat} {ops : Array Oper} {o : Oper} (hk : ops.size = k + 1) (ho : ops[k]? = some o) (hnd : ∀ c, o.op ≠ .defer c) (hg : (ops.toList.all fun o => o.guard.isNone) = true) (hd : dstOK N ops = true)
    (H : aOps P Γ ops.toList (LastOK P Γ N o Q) (ops.toList.take k) σ h) : AWP P Γ N (.region id ops false) Q σ h := fun r G w a hr hI ht => by
  have hgo : ∀ (i : Nat) (o : Oper), ops[i]? = some o → o.guard = none ∧ ∀ x, o.dst = some x → x < N := fun i o ho => by
    have hm : o ∈ ops.toList := by simpa using Array.mem_of_getElem? ho
    refine ⟨?_, fun x hx => ?_⟩
    · have := List.all_eq_true.1 hg o hm
      simpa using this
    · have := List.all_eq_true.1 hd o hm
      rw [hx] at this
      exact Nat.le_of_ble_eq_true this
  refine wpIn_region ?_
  have hr2 : List.range ops.size = List.range k ++ [k] := by rw [hk, List.range_succ]
  rw [hr2]
  have hfm : (List.range k).filterMap (ops[·]?) = ops.toList.take k := by
    have h1 := filterMap_idx (ops.toList.take k)
    have hl : (ops.toList.take k).length = k := by rw [List.length_take, Array.length_toList]; omega
    rw [hl] at h1
    rw [← h1]
    refine fm_congr fun i hi => ?_
    rw [List.getElem?_take_of_lt (List.mem_range.1 hi)]
    simp
  refine aOps_upto (K := LastOK P Γ N o Q) (G0 := G) (ds := a.defers) (fun σ h G1 w a1 hle hI ht hda HL => ?_) (List.range k) σ h G w a (fun i _ o ho => hgo i o ho) (Gh.le.refl G) hI ht rfl (by rw [hfm]; exact H)
  obtain ⟨hgk, hdk⟩ := hgo k o ho
  rw [wpOpsIn_cons]
  unfold wpOpIn
  simp only [ho]
  unfold Region.wanted
  simp only [hgk, if_true]
  refine ⟨fun _ _ => trivial, ?_⟩
  show o.uponIn (Fr r) 0 P a1 _ _ ((o.semAt r a1.eval).run P w)
  obtain ⟨n, u, w', G', av, h', h1, h2, h3, h4, h5, h6⟩ := HL G1 w a1 hI ht
  rw [semAt_ok r a1.eval o hnd, h1]
  have fin : Post Γ N G a.defers Q .normal (a1.put o.dst u) w' := ⟨G', _, h', [], hle.trans h3, h4, (ht.mono h3).put hdk h5, by rw [put_defers, hda]; rfl, fun D hD => by simp at hD, List.nodup_nil, h6⟩
  rcases h2 with rfl | ⟨rfl, rfl⟩
  · exact fin
  · exact fin
/-- A copy from a list into an array of one's own, as a region's last operation. -/
theorem copy_last {o : Oper} {c : Call} {t u e : TypeId} {x y : Operand} {n i off len cap : Nat} {rows cs : List AV} {own : Own} {T : TypeId} (hc : o.op = .call c) (hb : c.callee = .builtin .copy) (hts : c.argTypes = #[t, u]) (hxs : c.args = #[x, y]) (ht : P.underlying t = some (.slice e)) (hn : tsz P e = some n) (h0 : n ≠ 0)
    (hx : ev Γ σ x = .ms i off len cap n) (hy : ev Γ σ y = .sl rows own) (hrow : h[i]? = some (.row cs T)) (hfit : off + len * n ≤ cs.length) (hok : RowsOK n rows)
    (H : Q .normal (put o.dst (.int .i64 (min rows.length len : Nat)) σ) (h.set i (.row (splice cs off (flat (rows.take (min rows.length len)))) T))) : LastOK P Γ N o Q σ h := fun G w a hI ht' => by
  have k1 := ev_VR hI ht' x
  have k2 := ev_VR hI ht' y
  rw [hx] at k1
  rw [hy] at k2
  have := StepOK.val (copy_ok (u := u) (ty := o.type) hI ht hn h0 k1 k2 hrow hfit hok (K := fun v h' => Q .normal (put o.dst v σ) h') H)
  have e1 : execOp a.eval o = (do pure (.value (← Builtin.copy_ #[t, u] o.type #[a.eval x, a.eval y]))) := by
    simp only [execOp, hc, resolve, hb, pure_bind, invoke, hts, hxs, List.map_toArray, List.map_cons, List.map_nil]
    rfl
  rw [e1]
  exact this
theorem copy_last0 {o : Oper} {c : Call} {t u e : TypeId} {x y : Operand} {n : Nat} {rows : List AV} {own own' : Own} (hc : o.op = .call c) (hb : c.callee = .builtin .copy) (hts : c.argTypes = #[t, u]) (hxs : c.args = #[x, y]) (ht : P.underlying t = some (.slice e)) (hn : tsz P e = some n)
    (hx : ev Γ σ x = .sl [] own') (hy : ev Γ σ y = .sl rows own) (H : Q .normal (put o.dst (.int .i64 0) σ) h) : LastOK P Γ N o Q σ h := fun G w a hI ht' => by
  have k1 := ev_VR hI ht' x
  have k2 := ev_VR hI ht' y
  rw [hx] at k1
  rw [hy] at k2
  have := StepOK.val (copy_ok0 (u := u) (ty := o.type) hI ht hn k1 k2 (K := fun v h' => Q .normal (put o.dst v σ) h') H)
  have e1 : execOp a.eval o = (do pure (.value (← Builtin.copy_ #[t, u] o.type #[a.eval x, a.eval y]))) := by
    simp only [execOp, hc, resolve, hb, pure_bind, invoke, hts, hxs, List.map_toArray, List.map_cons, List.map_nil]
    rfl
  rw [e1]
  exact this
end
end Go.Abs

/- The law Needed. No conditions. -/
set_option linter.unusedSimpArgs false
set_option linter.unusedVariables false
namespace Go.Proofs.YtjdhgaflenhljaaDoor
open Go Go.Proofs Go.Abs

theorem upI_mem (n : Int) : ∀ k : Nat, n ∈ upI k ↔ 0 ≤ n ∧ n < k
  | 0 => by simp only [upI, List.not_mem_nil, false_iff]; omega
  | k + 1 => by
    rw [upI, List.mem_append, upI_mem n k, List.mem_singleton]; omega
theorem upI_pw : ∀ k : Nat, (upI k).Pairwise (· < ·)
  | 0 => .nil
  | k + 1 => by
    rw [upI, List.pairwise_append]
    exact ⟨upI_pw k, by simp, fun a ha b hb => by rw [List.mem_singleton] at hb; have := (upI_mem a k).1 ha; omega⟩
theorem need_err (mode : Int) (l : List Bool) : (needF mode l).2.2 = errN mode l.length := by
  rw [needF]
  split
  · rfl
  · rename_i h
    have : errN mode l.length = 0 := by omega
    split
    · exact this.symm
    split
    · exact this.symm
    · exact this.symm
structure NeedOK (mode : Int) (l : List Bool) : Prop where
  rg : ∀ n ∈ (needF mode l).1, 0 ≤ n ∧ n < l.length
  pw : (needF mode l).1.Pairwise (· < ·)
  enough : ∀ c : List Bool, c.length = l.length → (∀ n ∈ (needF mode l).1, c[n.toNat]? = l[n.toNat]?) → decF mode c = ((needF mode l).2.1, 0)
  one4 : mode = 4 → (needF mode l).2.1 = true → (needF mode l).1.length = 1
  one3 : mode = 3 → (needF mode l).2.1 = false → 0 < l.length → (needF mode l).1.length = 1
theorem need_ok {mode : Int} {l : List Bool} (h : errN mode l.length = 0) : NeedOK mode l := by
  have hd : needF mode l = if mode = 4 ∧ 0 ≤ fstB true 0 l then ([fstB true 0 l], true, 0) else if mode = 3 ∧ 0 ≤ fstB false 0 l then ([fstB false 0 l], false, 0) else (upI l.length, togF mode l, 0) := by rw [needF, if_neg (by omega)]
  have hdec : ∀ c : List Bool, c.length = l.length → decF mode c = (togF mode c, 0) := fun c hc => by rw [decF, hc, if_neg (by omega)]
  have ge := fun b => fstB_ge b l 0
  split at hd
  · rename_i h1
    obtain ⟨h1, h2⟩ := h1
    obtain ⟨g1, g2, g3⟩ := (ge true).resolve_left (by omega)
    rw [Nat.sub_zero] at g3
    refine ⟨?_, ?_, fun c hc hn => ?_, fun _ _ => by rw [hd]; rfl, fun e => by omega⟩ <;> rw [hd] at *
    · intro n hn; rw [List.mem_singleton] at hn; subst hn; simp at g2; omega
    · simp
    · rw [hdec c hc, togF, if_neg (by omega), if_pos h1]
      have h3 := hn _ (List.mem_singleton.2 rfl)
      rw [g3] at h3
      have : ¬ fstB true 0 c < 0 := fun e => (fstB_no true c 0).1 e true (List.mem_of_getElem? h3) rfl
      rw [decide_eq_true (by omega)]
  split at hd
  · rename_i h0 h1
    obtain ⟨h1, h2⟩ := h1
    obtain ⟨g1, g2, g3⟩ := (ge false).resolve_left (by omega)
    rw [Nat.sub_zero] at g3
    refine ⟨?_, ?_, fun c hc hn => ?_, fun e => by omega, fun _ _ _ => by rw [hd]; rfl⟩ <;> rw [hd] at *
    · intro n hn; rw [List.mem_singleton] at hn; subst hn; simp at g2; omega
    · simp
    · rw [hdec c hc, togF, if_pos h1]
      have h3 := hn _ (List.mem_singleton.2 rfl)
      rw [g3] at h3
      have : ¬ fstB false 0 c < 0 := fun e => (fstB_no false c 0).1 e false (List.mem_of_getElem? h3) rfl
      rw [decide_eq_false (by omega)]
  · rename_i h0 h1
    refine ⟨?_, ?_, fun c hc hn => ?_, fun e e2 => ?_, fun e e2 e3 => ?_⟩ <;> rw [hd] at *
    · intro n hn; exact (upI_mem n _).1 hn
    · exact upI_pw _
    · have : c = l := by
        apply List.ext_getElem?
        intro i
        by_cases hi : i < l.length
        · have := hn (i : Int) ((upI_mem _ _).2 ⟨by omega, by omega⟩)
          simpa using this
        · rw [List.getElem?_eq_none (by omega), List.getElem?_eq_none (by omega)]
      rw [hdec c hc, this]
    · simp only at e2
      rw [togF, if_neg (by omega), if_pos e, decide_eq_true_eq] at e2
      exact absurd ⟨e, e2⟩ h0
    · simp only at e2
      rw [togF, if_pos e, decide_eq_false_iff_not] at e2
      exact absurd ⟨e, by omega⟩ h1
theorem splice_B (p q : List Bool) (pad : List AV) : splice (encBl p ++ pad) 0 (flat ((encBl q).take (min (encBl q).length p.length))) = encBl (q.take p.length ++ p.drop q.length) ++ pad := by
  have e1 : (encBl q).take (min (encBl q).length p.length) = encBl (q.take p.length) := by
    rw [encBl_len, encBl, ← List.map_take]
    congr 1
    rcases Nat.le_total q.length p.length with h | h
    · rw [Nat.min_eq_left h, List.take_of_length_le h, List.take_of_length_le (Nat.le_refl _)]
    · rw [Nat.min_eq_right h]
  have hl : (encBl (q.take p.length)).length ≤ p.length := by rw [encBl_len, List.length_take]; omega
  rw [e1, flat_B, splice_eq (by rw [List.length_append, encBl_len p]; omega), List.take_zero, List.nil_append, Nat.zero_add, List.drop_append_of_le_length (by rw [encBl_len p]; exact hl)]
  have e2 : (encBl p).drop (encBl (q.take p.length)).length = encBl (p.drop q.length) := by
    rw [encBl_len, List.length_take, encBl, ← List.map_drop]
    congr 1
    rcases Nat.le_total q.length p.length with h | h
    · rw [Nat.min_eq_right h]
    · rw [Nat.min_eq_left h, List.drop_eq_nil_of_le (Nat.le_refl _), List.drop_eq_nil_of_le h]
  rw [e2, ← List.append_assoc]
  simp [encBl]
set_option maxHeartbeats 1600000 in
set_option maxRecDepth 100000 in
theorem lawNeeded_calls (Γ : Nat → Option (List AV)) (hΓ : Γ 0 = some kindsC) (mode : Int) (p q : List Bool) (h : AH) (hp : p.length ≤ 9223372036854775807) (hq : q.length ≤ 9223372036854775807) :
    ACalls Tryd.prog Γ 4 [.int .i64 mode, .sl (encBl p) .free, .sl (encBl q) .free] h fun v h' => h' = h ∧ v = .bool true := by
  refine ACalls.drop ?_
  refine acalls_of_awp (rs := [.tmp 6]) Tryd.func4 rfl rfl rfl rfl ?_
  refine AWP.mark2 (by decide) ?_
  refine awp_seq (aCode_ok Ty.mixed _ _ _ _ (by kernel_rfl) ?_)
  simp (disch := omega) only [go_sem, seval]
  refine awp_seq (aCode_ok Ty.mixed _ _ _ _ (by kernel_rfl) ?_)
  simp (disch := omega) only [go_sem, seval]
  refine ACalls.det (sane27_calls Γ hΓ _) ?_
  simp (disch := omega) only [go_sem, seval]
  refine awp_seq (aCode_ok Ty.mixed _ _ _ _ (by kernel_rfl) ?_)
  simp (disch := omega) only [go_sem, seval, encBl_len]
  refine aIf.intro (fun h1 => ?_) (fun h1 => ?_) <;> simp (disch := omega) only [go_sem, seval, encBl_len]
  refine aIf.intro (fun h2 => ?_) (fun h2 => ?_) <;> simp (disch := omega) only [go_sem, seval]
  refine awp_seq (aCode_ok Ty.mixed _ _ _ _ (by kernel_rfl) ?_)
  simp (disch := omega) only [go_sem, seval]
  refine ACalls.det (needed_calls Γ mode p _ hp) ?_
  simp (disch := omega) only [go_sem, seval]
  refine awp_seq (aCode_ok Ty.mixed _ _ _ _ (by kernel_rfl) ?_)
  simp (disch := omega) only [go_sem, seval]
  refine ACalls.det (decide_calls Γ mode p _ hp) ?_
  rw [need_dec]
  simp (disch := omega) only [go_sem, seval]
  refine awp_seq (aCode_ok Ty.mixed _ _ _ _ (by kernel_rfl) ?_)
  simp (disch := omega) only [go_sem, seval]
  refine aIf.intro (fun h3 => ?_) (fun h3 => ?_) <;> simp (disch := omega) only [go_sem, seval]
  rotate_left
  · rw [need_err] at h3
    have hd : needF mode p = ([], false, errN mode p.length) := by rw [needF, if_pos h3]
    rw [hd]
    refine aIf.pos rfl ?_
    simp (disch := omega) only [go_sem, seval]
  have h0 : errN mode p.length = 0 := by rw [← need_err]; exact h3
  have H := need_ok h0
  obtain ⟨L, hL⟩ : ∃ L, L = (needF mode p).1 := ⟨_, rfl⟩
  obtain ⟨ok, hok⟩ : ∃ ok, ok = (needF mode p).2.1 := ⟨_, rfl⟩
  obtain ⟨hrg, hpw, hen, h14, h13⟩ := H
  rw [← hL] at hrg hpw hen h14 h13 ⊢
  rw [← hok] at hen h14 h13 ⊢
  have hLl : L.length ≤ 300 + 1 := by
    rw [hL, needF]
    split
    · simp
    split
    · simp
    split
    · simp
    · rw [upI_len]; omega
  refine awp_gotU [0, 1, 2, 7, 8, 1000001] (fun σ hy => hy = h ∧ σ = [(0, .int .i64 mode), (1, .sl (encBl p) .free), (2, .sl (encBl q) .free), (7, .sl (encI L) .free), (8, .bool ok), (1000001, .tuple [])]) (aCode_ok Ty.mixed _ _ _ _ (by kernel_rfl) ?_) ?_
  · simp (disch := omega) only [go_sem, seval]
    refine aIf.pos h3 ?_
    cases ok
    · simp (disch := omega) only [go_sem, seval]
    · simp (disch := omega) only [go_sem, seval]
  rintro σ hy ⟨rfl, rfl⟩
  have hlens : (encBl q).length = q.length := encBl_len q
  refine awp_seq (aCode_ok Ty.mixed _ _ _ _ (by kernel_rfl) ?_)
  simp (disch := omega) only [go_sem, seval]
  by_cases hp0 : p = []
  · subst hp0
    have hL0 : L = [] := by
      cases L with
      | nil => rfl
      | cons n r => have := hrg n (by simp); simp at this; omega
    subst hL0
    refine ⟨[], rfl, fun r hr => (by cases hr), by simp, by simp, fun _ => ?_, fun e => absurd rfl e⟩
    simp (disch := omega) only [go_sem, seval]
    refine awp_seq (awp_region_last (k := 2) rfl rfl (fun c e => by cases e) (by kernel_rfl) (by kernel_rfl) ?_)
    simp only [List.take_succ_cons, List.take_zero]
    simp (disch := omega) only [go_sem, seval]
    refine copy_last0 (e := 4) (n := 1) (rows := encBl q) (own := .free) (own' := .full) rfl rfl rfl rfl (by kernel_rfl) (by kernel_rfl) rfl rfl ?_
    simp (disch := omega) only [go_sem, seval]
    refine aCode_ok Ty.mixed _ _ _ _ (by kernel_rfl) ?_
    simp (disch := omega) only [go_sem, seval, encI_len]
    refine awp_loopL (β := Unit) ([] : List Int) [0, 1, 7, 8, 12, 71, 72, 73] (fun don _ => [(0, .int .i64 mode), (1, .sl (encBl []) .free), (7, .sl (encI []) .free), (8, .bool ok), (12, .sl [] .full), (71, .sl (encI []) .free), (72, .int .i64 0), (73, .int .i64 don.length)]) (fun _ => hy) (fun _ _ _ => True) () ?_ rfl trivial Ty.mixed (by kernel_rfl) ?_ ?_
    · simp (disch := omega) only [go_sem, seval, List.length_nil]
    · rintro don n r _ hdn -
      cases don <;> cases hdn
    · rintro _ -
      simp (disch := omega) only [go_sem, seval, List.length_nil]
      have hr : decF mode [] = (ok, 0) := hen [] rfl (fun n hn => by cases hn)
      have cd := fun h => decide_calls Γ mode [] h (by decide)
      rw [hr] at cd
      refine AWP.keep [0, 1, 7, 8, 12] ?_
      refine awp_gotU [0, 8, 12] (fun σ hx => hx = hy ∧ σ = [(0, .int .i64 mode), (8, .bool ok), (12, .sl [] .full)]) (aCode_ok Ty.mixed _ _ _ _ (by kernel_rfl) ?_) ?_
      · simp (disch := omega) only [go_sem, seval, encI_len, encBl_len]
        refine aIf.intro (fun k1 => ?_) (fun k1 => ?_) <;> simp (disch := omega) only [go_sem, seval]
        · cases ok
          · simp (disch := omega) only [go_sem, seval, encI_len, encBl_len]
            refine aIf.neg (by omega) ?_
            simp (disch := omega) only [go_sem, seval]
          · have := h14 k1 rfl
            simp at this
        · refine aIf.intro (fun k2 => ?_) (fun k2 => ?_) <;> simp (disch := omega) only [go_sem, seval]
          cases ok
          · simp (disch := omega) only [go_sem, seval, encI_len, encBl_len]
          · simp (disch := omega) only [go_sem, seval]
      rintro σ hx ⟨rfl, rfl⟩
      refine aCode_ok Ty.mixed _ _ _ _ (by kernel_rfl) ?_
      simp (disch := omega) only [go_sem, seval]
      refine ACalls.ofLoose (ACalls.det (cd _) ?_) (by simp [looseL, loose, encBl])
      cases ok
      · simp (disch := omega) only [go_sem, seval]
      · simp (disch := omega) only [go_sem, seval]
  have ap := fun (Q : AV → AH → Prop) (H : _) => So.aApM_own (h := hy) (j := []) (T := 4) (by_ := 1) (z := [.bool false]) (Q := Q) (xs := []) (ys := encBl p) (v := .sl [] .full) (x := .sl (encBl p) .free) (.inl ⟨rfl, rfl⟩) rfl (rowsOK_B p) (flat_B p) (fun e => by have := congrArg List.length e; rw [encBl_len, List.length_nil] at this; exact hp0 (List.eq_nil_of_length_eq_zero this)) (by rw [encBl_len]; simp; omega) (by rw [encBl_len]; simp; omega) H
  rw [List.append_nil] at ap
  refine ap _ fun v j hv _ => ?_
  rw [List.nil_append] at hv
  rcases hv with ⟨rfl, hnil⟩ | ⟨qi, c, pad, rfl, hq2, hc', hpad⟩
  · have := congrArg List.length hnil
    rw [encBl_len, List.length_nil] at this
    exact absurd (List.eq_nil_of_length_eq_zero this) hp0
  rw [encBl_len] at hc' ⊢
  have hg : (hy ++ j)[hy.length + qi]? = some (.row (encBl p ++ pad) 4) := by rw [hget_add]; exact hq2
  have hqi := (List.getElem?_eq_some_iff.1 hq2).1
  simp (disch := omega) only [go_sem, seval]
  refine awp_seq (awp_region_last (k := 2) rfl rfl (fun c e => by cases e) (by kernel_rfl) (by kernel_rfl) ?_)
  simp only [List.take_succ_cons, List.take_zero]
  simp (disch := omega) only [go_sem, seval]
  refine copy_last (e := 4) (n := 1) (off := 0) (rows := encBl q) (own := .free) (T := 4) rfl rfl rfl rfl (by kernel_rfl) (by kernel_rfl) (by decide) rfl rfl hg (by rw [List.length_append, encBl_len]; omega) (rowsOK_B q) ?_
  simp (disch := omega) only [go_sem, seval]
  rw [splice_B]
  obtain ⟨c0, hc0⟩ : ∃ c0, c0 = q.take p.length ++ p.drop q.length := ⟨_, rfl⟩
  have hc0l : c0.length = p.length := by rw [hc0, List.length_append, List.length_take, List.length_drop]; omega
  rw [← hc0]
  clear hg hq2
  have hgr : ∀ c' : List Bool, (hy ++ j.set qi (.row (encBl c' ++ pad) 4))[hy.length + qi]? = some (.row (encBl c' ++ pad) 4) := fun c' => by rw [hget_add, List.getElem?_set_self hqi]
  refine aCode_ok Ty.mixed _ _ _ _ (by kernel_rfl) ?_
  simp (disch := omega) only [go_sem, seval, encI_len]
  refine awp_loopL (β := List Bool) L [0, 1, 7, 8, 12, 71, 72, 73] (fun don _ => [(0, .int .i64 mode), (1, .sl (encBl p) .free), (7, .sl (encI L) .free), (8, .bool ok), (12, .ms (hy.length + qi) 0 p.length c 1), (71, .sl (encI L) .free), (72, .int .i64 L.length), (73, .int .i64 don.length)]) (fun b => hy ++ j.set qi (.row (encBl b ++ pad) 4)) (fun don _ b => b.length = p.length ∧ ∀ n ∈ don, b[n.toNat]? = p[n.toNat]?) c0 ?_ rfl ⟨hc0l, fun n hn => by cases hn⟩ Ty.mixed (by kernel_rfl) ?_ ?_
  · simp (disch := omega) only [go_sem, seval, List.length_nil]
  · rintro don n r b hdn ⟨hbl, hbn⟩
    have hln : L.length = don.length + 1 + r.length := by rw [hdn]; simp; omega
    have e1 : (encI L)[don.length]? = some (.int .i64 n) := by rw [hdn]; exact encI_get don r n
    obtain ⟨r1, r2⟩ := hrg n (by rw [hdn]; simp)
    simp (disch := omega) only [go_sem, seval, encI_len]
    refine aIf.pos (by omega) ?_
    simp (disch := omega) only [go_sem, seval, e1, encI_len, encBl_len]
    refine aIf.neg (by omega) ?_
    simp (disch := omega) only [go_sem, seval, encBl_len]
    refine aIf.neg (by omega) ?_
    simp (disch := omega) only [go_sem, seval]
    have hnl : n.toNat < p.length := by omega
    obtain ⟨x, hx⟩ : ∃ x, p[n.toNat]? = some x := ⟨p[n.toNat], List.getElem?_eq_getElem hnl⟩
    have ex : (encBl p)[n.toNat]? = some (.bool x) := by rw [encBl, List.getElem?_map, hx]; rfl
    have hst : (encBl b ++ pad).set (0 + n.toNat * 1) (.bool x) = encBl (b.set n.toNat x) ++ pad := by
      rw [Nat.zero_add, Nat.mul_one, List.set_append_left _ _ (by rw [encBl_len]; omega)]
      simp [encBl, List.map_set]
    have fin : (b.set n.toNat x).length = p.length ∧ ∀ m ∈ don ++ [n], (b.set n.toNat x)[m.toNat]? = p[m.toNat]? := by
      refine ⟨by rw [List.length_set]; exact hbl, fun m hm => ?_⟩
      by_cases e : n.toNat = m.toNat
      · rw [← e, List.getElem?_set_self (by omega), hx]
      · rw [List.getElem?_set_ne e]
        rcases List.mem_append.1 hm with hm | hm
        · exact hbn m hm
        · rw [List.mem_singleton] at hm; subst hm; exact absurd rfl e
    refine aIf.intro (fun k1 => ?_) (fun k1 => ?_) <;> simp (disch := omega) only [go_sem, seval]
    · have hd1 : ((don.length : Int) - 1).toNat = don.length - 1 := by omega
      obtain ⟨a, ha⟩ : ∃ a, L[don.length - 1]? = some a := ⟨L[don.length - 1]'(by omega), List.getElem?_eq_getElem _⟩
      have e2 : (encI L)[don.length - 1]? = some (.int .i64 a) := by rw [encI, List.getElem?_map, ha]; rfl
      have e3 : L[don.length]? = some n := by rw [hdn]; simp
      have han : a < n := by
        obtain ⟨p1, p2⟩ := List.getElem?_eq_some_iff.1 ha
        obtain ⟨q1, q2⟩ := List.getElem?_eq_some_iff.1 e3
        have := List.pairwise_iff_getElem.1 hpw (don.length - 1) don.length p1 q1 (by omega)
        omega
      rw [hd1]
      simp (disch := omega) only [go_sem, seval, e2, encI_len]
      refine ⟨by omega, aIf.neg (by omega) ?_⟩
      simp (disch := omega) only [go_sem, seval, ex, hgr, encBl_len]
      rw [hst]
      refine ⟨by omega, by omega, by omega, by rw [List.length_append, encBl_len]; omega, ?_⟩
      refine roundL_next (b.set n.toNat x) fin ?_ (by rw [List.set_set])
      simp (disch := omega) only [go_sem, seval, List.length_append]
    · simp (disch := omega) only [go_sem, seval, ex, hgr, encBl_len]
      rw [hst]
      refine ⟨by omega, by omega, by omega, by rw [List.length_append, encBl_len]; omega, ?_⟩
      refine roundL_next (b.set n.toNat x) fin ?_ (by rw [List.set_set])
      simp (disch := omega) only [go_sem, seval, List.length_append]
  · rintro b ⟨hbl, hbn⟩
    simp (disch := omega) only [go_sem, seval]
    refine AWP.keep [0, 1, 7, 8, 12] ?_
    refine awp_gotU [0, 8, 12] (fun σ hx => hx = hy ++ j.set qi (.row (encBl b ++ pad) 4) ∧ σ = [(0, .int .i64 mode), (8, .bool ok), (12, .ms (hy.length + qi) 0 p.length c 1)]) (aCode_ok Ty.mixed _ _ _ _ (by kernel_rfl) ?_) ?_
    · simp (disch := omega) only [go_sem, seval, encI_len, encBl_len]
      refine aIf.intro (fun k1 => ?_) (fun k1 => ?_) <;> simp (disch := omega) only [go_sem, seval]
      · cases ok
        · simp (disch := omega) only [go_sem, seval, encI_len, encBl_len]
          refine aIf.neg (by omega) ?_
          simp (disch := omega) only [go_sem, seval]
        · have := h14 k1 rfl
          simp (disch := omega) only [go_sem, seval, encI_len, encBl_len]
          refine aIf.pos (by omega) ?_
          simp (disch := omega) only [go_sem, seval]
          refine aIf.neg (by omega) ?_
          simp (disch := omega) only [go_sem, seval]
      · refine aIf.intro (fun k2 => ?_) (fun k2 => ?_) <;> simp (disch := omega) only [go_sem, seval]
        cases ok
        · simp (disch := omega) only [go_sem, seval, encI_len, encBl_len]
          refine aIf.intro (fun k3 => ?_) (fun k3 => ?_) <;> simp (disch := omega) only [go_sem, seval, encI_len]
          have := h13 k2 rfl (by omega)
          refine aIf.pos (by omega) ?_
          simp (disch := omega) only [go_sem, seval]
        · simp (disch := omega) only [go_sem, seval]
    rintro σ hx ⟨rfl, rfl⟩
    refine aCode_ok Ty.mixed _ _ _ _ (by kernel_rfl) ?_
    simp (disch := omega) only [go_sem, seval]
    have hfz := fz_ownB (hy.length + qi) c b pad (by omega) hpad
    rw [hbl] at hfz
    refine ACalls.ofFreeze (hgr b) (Froze.set (hgr b)) ?_
    rw [List.map_cons, List.map_cons, List.map_nil, hfz]
    have cd := fun h => decide_calls Γ mode b h (by omega)
    rw [hen b hbl hbn] at cd
    have ei : fzV (hy.length + qi) (encBl b ++ pad) (.int .i64 mode) = .int .i64 mode := rfl
    rw [ei, hset_add]
    refine ACalls.det (cd _) ?_
    cases ok
    · simp (disch := omega) only [go_sem, seval]
    · simp (disch := omega) only [go_sem, seval]
end Go.Proofs.YtjdhgaflenhljaaDoor
