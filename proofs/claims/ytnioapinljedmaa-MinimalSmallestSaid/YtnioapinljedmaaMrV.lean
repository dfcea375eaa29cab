/- Texts joined: MinO. No conditions. -/
import Derived.Test.YtnioapinljedmaaMrS
/- The law MinimalSmallest: the code. No conditions. -/
set_option linter.unusedSimpArgs false
set_option linter.unusedVariables false
namespace Go.Proofs.Ytnioapinljedmaa
open Go Go.Proofs Go.Abs

/-! ### Numbers by people, as a map's entries -/
def entsV (f : Int → Int) : Nat → List Int → List (Nat × AV × AV)
  | _, [] => []
  | i, n :: r => (i, .int .i64 n, .int .i64 (f n)) :: entsV f (i + 1) r
theorem entsV_get (f : Int → Int) : ∀ (l : List Int) (i k : Nat), (entsV f i l)[k]? = (l[k]?).map fun n => (i + k, .int .i64 n, .int .i64 (f n))
  | [], i, k => by simp [entsV]
  | n :: r, i, 0 => by simp [entsV]
  | n :: r, i, k + 1 => by
    rw [entsV, List.getElem?_cons_succ, List.getElem?_cons_succ, entsV_get f r (i + 1) k]
    congr 1
    funext x
    rw [show i + 1 + k = i + (k + 1) from by omega]
theorem entsV_len (f : Int → Int) (l : List Int) (i : Nat) : (entsV f i l).length = l.length := by
  induction l generalizing i with
  | nil => rfl
  | cons a l ih => simp [entsV, ih]
theorem entsV_app (f : Int → Int) (l r : List Int) (i : Nat) : entsV f i (l ++ r) = entsV f i l ++ entsV f (i + l.length) r := by
  induction l generalizing i with
  | nil => simp [entsV]
  | cons a l ih => simp [entsV, ih, Nat.add_assoc, Nat.add_comm 1]
theorem entsV_find (f : Int → Int) (p : Int) (l : List Int) (i : Nat) : (p ∈ l ∧ ∃ j, aFind (.int .i64 p) (entsV f i l) = some (some j) ∧ l[j]? = some p) ∨ (p ∉ l ∧ aFind (.int .i64 p) (entsV f i l) = some none) := by
  induction l generalizing i with
  | nil => exact .inr ⟨by simp, rfl⟩
  | cons a r ih =>
    by_cases ha : p = a
    · subst ha
      exact .inl ⟨by simp, 0, by simp [entsV, aFind], rfl⟩
    · rcases ih (i + 1) with ⟨h1, j, h2, h3⟩ | ⟨h1, h2⟩
      · exact .inl ⟨by simp [h1], j + 1, by simp [entsV, aFind, ha, h2], by simpa using h3⟩
      · exact .inr ⟨by simp [ha, h1], by simp [entsV, aFind, ha, h2]⟩
theorem look_entsV (f : Int → Int) (p : Int) (l : List Int) (i c : Nat) (K : AV → Prop) : aLkO false (.int .i64 0) (.int .i64 p) (some (.map (entsV f i l) c)) K = K (.int .i64 (if p ∈ l then f p else 0)) := by
  unfold aLkO aLkF
  rcases entsV_find f p l i with ⟨h1, j, h2, h3⟩ | ⟨h1, h2⟩
  · have := entsV_get f l i j
    rw [h3] at this
    simp [h1, h2, this]
  · simp [h1, h2]
theorem entsV_congr {f f' : Int → Int} : ∀ (l : List Int) (i : Nat), (∀ x ∈ l, f' x = f x) → entsV f' i l = entsV f i l
  | [], _, _ => rfl
  | n :: r, i, h => by rw [entsV, entsV, h n (by simp), entsV_congr r (i + 1) fun x hx => h x (List.mem_cons_of_mem _ hx)]
theorem put_entsV {f f' : Int → Int} (p : Int) (ks : List Int) (hn : ks.Nodup) (hf : ∀ x, x ≠ p → f' x = f x) : (aFind (.int .i64 p) (entsV f 0 ks)).bind (putEnt (entsV f 0 ks) ks.length (.int .i64 p) (.int .i64 (f' p))) = some (.map (entsV f' 0 (addK p ks)) (addK p ks).length) := by
  rcases entsV_find f p ks 0 with ⟨h1, j, h2, h3⟩ | ⟨h1, h2⟩
  · rw [h2, addK, if_pos h1]
    have hg := entsV_get f ks 0 j
    rw [h3] at hg
    simp only [Option.map_some] at hg
    simp only [Option.bind_some, putEnt, hg, Option.map_some]
    congr 2
    apply List.ext_getElem?
    intro k
    rw [List.getElem?_set, entsV_get f' ks 0 k]
    split
    · rename_i hk; subst hk
      rw [if_pos (List.getElem?_eq_some_iff.1 hg).1, h3]; rfl
    · rename_i hk
      rw [entsV_get]
      cases hx : ks[k]? with
      | none => rfl
      | some x =>
        have hxp : x ≠ p := fun e => by
          subst e
          obtain ⟨k1, k2⟩ := List.getElem?_eq_some_iff.1 hx
          obtain ⟨j1, j2⟩ := List.getElem?_eq_some_iff.1 h3
          have hnd := List.pairwise_iff_getElem.1 hn
          rcases Nat.lt_trichotomy j k with c | c | c
          · exact hnd j k j1 k1 c (j2.trans k2.symm)
          · exact hk c
          · exact hnd k j k1 j1 c (k2.trans j2.symm)
        simp [hf x hxp]
  · rw [h2, addK, if_neg h1]
    simp only [Option.bind_some, putEnt, entsV_app, entsV, List.length_append, List.length_cons, List.length_nil, Nat.zero_add]
    rw [entsV_congr ks 0 fun x hx => hf x fun e => h1 (e ▸ hx)]
theorem entsV_mem (f : Int → Int) (l : List Int) (e : Nat × AV × AV) (h : e ∈ entsV f 0 l) : ∃ b, b < l.length ∧ e = (b, .int .i64 (l.getD b 0), .int .i64 (f (l.getD b 0))) := by
  obtain ⟨b, hb⟩ := List.getElem?_of_mem h
  rw [entsV_get] at hb
  obtain ⟨n, h1, rfl⟩ := Option.map_eq_some_iff.1 hb
  refine ⟨b, (List.getElem?_eq_some_iff.1 h1).1, ?_⟩
  rw [List.getD_eq_getElem?_getD, h1]; simp
theorem entsV_at (f : Int → Int) : ∀ (l : List Int) (i b : Nat), b < l.length → (entsV f i l).find? (·.1 == i + b) = some (i + b, .int .i64 (l.getD b 0), .int .i64 (f (l.getD b 0)))
  | [], _, _, h => by simp at h
  | n :: r, i, 0, h => by simp [entsV]
  | n :: r, i, b + 1, h => by
    rw [entsV, List.find?_cons_of_neg (by simp), show i + (b + 1) = i + 1 + b from by omega, entsV_at f r (i + 1) b (by simpa using h)]
    simp
/-- What a map says of people met in the first, and in the second list. -/
def metV (A B : List Int) (x : Int) : Int := (if x ∈ A then 1 else 0) + (if x ∈ B then 2 else 0)
def phA (L D : List Int) (b : Bool) : List Int := if b then L else D
def phB (D : List Int) (b : Bool) : List Int := if b then D else []
def mapV (L D ks : List Int) (b : Bool) : AObj := .map (entsV (metV (phA L D b) (phB D b)) 0 ks) ks.length
structure KsOK (L D ks : List Int) (b : Bool) : Prop where
  nd : ks.Nodup
  mem : ∀ x, x ∈ ks ↔ x ∈ phA L D b ∨ x ∈ phB D b
theorem KsOK.add {L D ks : List Int} {b : Bool} (h : KsOK L D ks b) (p : Int) : KsOK L (D ++ [p]) (addK p ks) b := by
  refine ⟨addK_nodup h.nd, fun x => ?_⟩
  rw [mem_addK, h.mem]
  cases b <;> simp [phA, phB, or_assoc]
theorem met_new {L D ks : List Int} {b : Bool} (h : KsOK L D ks b) (p : Int) :
    bitsOp .or .i64 (if p ∈ ks then metV (phA L D b) (phB D b) p else 0) (if b then 2 else 1) = metV (phA L (D ++ [p]) b) (phB (D ++ [p]) b) p := by
  have h0 : (if p ∈ ks then metV (phA L D b) (phB D b) p else 0) = metV (phA L D b) (phB D b) p := by
    split
    · rfl
    · rename_i hn
      rw [h.mem] at hn
      simp only [not_or] at hn
      simp [metV, hn.1, hn.2]
  rw [h0]
  cases b with
  | false =>
    simp only [metV, phA, phB, Bool.false_eq_true, if_false, List.mem_append, List.mem_singleton, or_true, if_true, List.not_mem_nil, Int.add_zero]
    split <;> decide +kernel
  | true =>
    simp only [metV, phA, phB, if_true, List.mem_append, List.mem_singleton, or_true]
    split <;> split <;> decide +kernel
theorem met_off {L D : List Int} {b : Bool} {p x : Int} (h : x ≠ p) : metV (phA L (D ++ [p]) b) (phB (D ++ [p]) b) x = metV (phA L D b) (phB D b) x := by
  cases b <;> simp [metV, phA, phB, h]
structure SmS where
  ks : List Int
  M : AObj
  j : AH
theorem fine_less {g : Gt} {b : Bool} (h : checkF g = 0) {d q : List Int} {p : Int} (hs : (d ++ p :: q) ∈ minsF (pplF g) (fineF g b)) : (d ++ q).Sublist (pplF g) ∧ fineF g b (d ++ q) = false := by
  have hP := ppl_lt h
  have h1 := ((mem_mins hP _).1 hs).1
  have h2 : (d ++ q).Sublist (d ++ p :: q) := List.Sublist.append (List.Sublist.refl _) (List.sublist_cons_self _ _)
  have hn := pw_nodup (hP.sublist h1)
  rw [List.nodup_append] at hn
  have hn2 := List.nodup_cons.1 hn.2.1
  refine ⟨h2.trans h1, less_not hP hs (h2.trans h1) (p := p) (by simp) fun x => ?_⟩
  simp only [List.mem_append, List.mem_cons]
  constructor
  · rintro (hx | hx)
    · exact ⟨.inl hx, fun e => hn.2.2 x hx p (by simp) e⟩
    · exact ⟨.inr (.inr hx), fun e => hn2.1 (e ▸ hx)⟩
  · rintro ⟨hx | hx | hx, hne⟩
    · exact .inl hx
    · exact absurd hx hne
    · exact .inr hx
set_option maxRecDepth 100000 in
theorem minSmallest_calls (Γ : Nat → Option (List AV)) (g : Gt) (h : AH) (hs : Sh g) :
    ACalls Try.prog Γ 13 [encG g] h fun v h' => h' = h ∧ v = .bool true := by
  have c1 := fun h => lists_calls Γ g h hs
  rw [listsV] at c1
  cases hu : useF g with
  | false =>
    rw [hu] at c1
    cases g with | mk p n gl =>
    simp only [encG_mk, Bool.false_eq_true, if_false] at c1 ⊢
    refine ACalls.drop ?_
    refine acalls_code (rs := [.tmp 2]) Try.func13 rfl rfl rfl rfl Ty.mixed (by kernel_rfl) ?_
    simp (disch := omega) only [go_sem, seval]
    refine ACalls.det (sane24_calls Γ _) ?_
    simp (disch := omega) only [go_sem, seval]
    refine ACalls.det (c1 _) ?_
    simp (disch := omega) only [go_sem, seval]
  | true =>
    have hok := use_ok hu
    rw [hu, if_pos rfl] at c1
    have hpn := hok.n
    have hP := hok.p
    have hck := hok.c
    have hsl := hok.s
    have hbl := hok.b
    have c2 := fun h => ppl_calls Γ g h hs (by have := hok.lv; omega)
    obtain ⟨XS, hXS⟩ : ∃ XS : Bool → List (List Int), ∀ b, XS b = minsF (pplF g) (fineF g b) := ⟨_, fun _ => rfl⟩
    have hX0 : setsF g = XS false := by rw [hXS]; rfl
    have hX1 : blksF g = XS true := by rw [hXS]; rfl
    have hXl : ∀ b, (XS b).length ≤ 256 := fun b => by cases b; · rw [← hX0]; exact hsl
                                                       · rw [← hX1]; exact hbl
    rw [hX0, hX1] at c1
    have hG : ∃ p n gl, g = .mk p n gl := by cases g with | mk p n gl => exact ⟨p, n, gl, rfl⟩
    obtain ⟨p, n, gl, hG⟩ := hG
    have eG : encG g = .agg [.int .i64 p, .int .i64 n, .sl (gl.map encG) .free] := by rw [hG, encG_mk]
    rw [eG] at c1 c2 ⊢
    refine ACalls.drop ?_
    refine acalls_code (rs := [.tmp 2]) Try.func13 rfl rfl rfl rfl Ty.mixed (by kernel_rfl) ?_
    simp (disch := omega) only [go_sem, seval]
    refine ACalls.det (sane24_calls Γ _) ?_
    simp (disch := omega) only [go_sem, seval]
    refine ACalls.det (c1 _) ?_
    simp (disch := omega) only [go_sem, seval]
    refine ACalls.det (c2 _) ?_
    simp (disch := omega) only [go_sem, seval]
    obtain ⟨LA, hLA⟩ : ∃ LA, LA = (XS false).flatten := ⟨_, rfl⟩
    obtain ⟨K, hK⟩ : ∃ K : AObj → AH, ∀ M, K M = h ++ [.row [.int .i64 p, .int .i64 n, .sl (gl.map encG) .free] 24, M] := ⟨_, fun _ => rfl⟩
    have Kl : ∀ M, (K M).length = h.length + 2 := fun M => by rw [hK]; simp
    have KD : ∀ M j, ∃ l, K M ++ j = h ++ l := fun M j => by rw [hK]; exact ⟨_, List.append_assoc ..⟩
    have Kg : ∀ M j, (K M ++ j)[h.length]? = some (.row [.int .i64 p, .int .i64 n, .sl (gl.map encG) .free] 24) := fun M j => by rw [hK]; simp
    have Km : ∀ M j, (K M ++ j)[h.length + 1]? = some M := fun M j => by rw [hK]; simp
    have Sm : ∀ M j M', (K M ++ j).set (h.length + 1) M' = K M' ++ j := fun M j M' => by rw [hK, hK]; simp
    generalize hPe : pplF g = P at *
    refine awp_loopL (β := SmS) [false, true] [1, 7, 8, 41, 42, 43] (fun don _ => [(1, .ptr (some (h.length, 0))), (7, .sl (encI P) .free), (8, .map (some (h.length + 1))), (41, .sl [.sl (encII (XS false)) .free, .sl (encII (XS true)) .free] .full), (42, .int .i64 2), (43, .int .i64 don.length)])
      (fun s => K s.M ++ s.j) (fun don _ s => (don.length = 0 → s.M = mapV LA [] s.ks false ∧ KsOK LA [] s.ks false) ∧ (don.length = 1 → s.M = mapV LA [] s.ks true ∧ KsOK LA [] s.ks true) ∧ (don.length = 2 → s.M = mapV LA (XS true).flatten s.ks true ∧ KsOK LA (XS true).flatten s.ks true)) ⟨[], .map [] 0, []⟩ ?_ (by simp [hK]) ⟨fun _ => ⟨rfl, .nil, by simp [phA, phB]⟩, by simp, by simp⟩ Ty.mixed (by kernel_rfl) ?_ ?_
    · simp (disch := omega) only [go_sem, seval]
    · rintro don b r ⟨ks, M, j⟩ hd ⟨i0, i1, _⟩
      simp only at i0 i1 ⊢
      have hdb : don.length = (if b then 1 else 0) ∧ don.length + 1 + r.length = 2 := by
        have hl := congrArg List.length hd
        simp at hl
        refine ⟨?_, by omega⟩
        rcases don with _ | ⟨x, _ | ⟨y, don⟩⟩
        · simp at hd; simp [← hd.1]
        · simp at hd; simp [← hd.2.1]
        · simp at hl; omega
      have hstart : M = mapV LA [] ks b ∧ KsOK LA [] ks b := by
        cases b with
        | false => exact i0 (by simpa using hdb.1)
        | true => exact i1 (by simpa using hdb.1)
      have e1 : [AV.sl (encII (XS false)) .free, .sl (encII (XS true)) .free][don.length]? = some (.sl (encII (XS b)) .free) := by rw [hdb.1]; cases b <;> rfl
      have hxl := hXl b
      simp (disch := omega) only [go_sem, seval]
      refine aIf.pos (by omega) ?_
      simp (disch := omega) only [go_sem, seval, e1, encII_len]
      refine awp_loopL (β := SmS) (XS b) [1, 7, 8, 9, 10, 41, 42, 43, 48, 49, 50] (fun don2 _ => [(1, .ptr (some (h.length, 0))), (7, .sl (encI P) .free), (8, .map (some (h.length + 1))), (9, .int .i64 don.length), (10, .sl (encII (XS b)) .free), (41, .sl [.sl (encII (XS false)) .free, .sl (encII (XS true)) .free] .full), (42, .int .i64 2), (43, .int .i64 don.length), (48, .sl (encII (XS b)) .free), (49, .int .i64 (XS b).length), (50, .int .i64 don2.length)])
        (fun s => K s.M ++ s.j) (fun don2 _ s => s.M = mapV LA don2.flatten s.ks b ∧ KsOK LA don2.flatten s.ks b) ⟨ks, M, j⟩ ?_ rfl hstart Ty.mixed (by kernel_rfl) ?_ ?_
      · simp (disch := omega) only [go_sem, seval]
      · clear hstart i0 i1
        rintro don2 x r2 ⟨ks, M, j⟩ hd2 ⟨hM, hk⟩
        simp only at hM hk ⊢
        have hlen2 : (XS b).length = don2.length + (r2.length + 1) := by rw [hd2]; simp
        have e2 : (encII (XS b))[don2.length]? = some (.sl (encI x) .free) := by rw [hd2]; exact encII_get don2 r2 x
        have hxm : x ∈ minsF P (fineF g b) := by rw [← hXS, hd2]; simp
        have hxs : x.Sublist P := ((mem_mins hP x).1 hxm).1
        have hxl2 := hxs.length_le
        have f1 : incF x = true := (incF_iff x).2 (hP.sublist hxs)
        have f2 : decide (∀ y ∈ x, y ∈ P) = true := decide_eq_true hxs.subset
        have k1 := fun h => incr_calls Γ x h (by omega)
        have k2 := fun h => inside_calls Γ x P h (by omega) (by omega)
        rw [f1] at k1
        rw [f2] at k2
        simp (disch := omega) only [go_sem, seval]
        refine aIf.pos (by omega) ?_
        simp (disch := omega) only [go_sem, seval, e2]
        refine ACalls.det (k1 _) ?_
        simp (disch := omega) only [go_sem, seval]
        refine ACalls.det (k2 _) ?_
        simp (disch := omega) only [go_sem, seval]
        refine aIf.intro (fun hi => ?_) (fun hi => ?_)
        focus
          obtain ⟨t, ht, htm⟩ : ∃ t, don2[don2.length - 1]? = some t ∧ t ∈ don2 := by
            have : don2.length - 1 < don2.length := by omega
            exact ⟨don2[don2.length - 1], by simp [this], List.getElem_mem _⟩
          have htx : t ∈ minsF P (fineF g b) := by rw [← hXS, hd2]; exact List.mem_append_left _ htm
          have htl := ((mem_mins hP t).1 htx).1.length_le
          have e0 : (encII (XS b))[don2.length - 1]? = some (.sl (encI t) .free) := by
            rw [hd2, encII, List.getElem?_map, List.getElem?_append_left (by omega), ht]; rfl
          have hbef : beforeF t x = true := by
            have := mins_pw (fineF g b) hP
            rw [← hXS, hd2, List.pairwise_append] at this
            exact this.2.2 t htm x (by simp)
          have k3 := fun h => before_calls Γ t x h (by omega) (by omega)
          rw [hbef] at k3
          simp (disch := omega) only [go_sem, seval]
          refine ⟨by omega, ?_⟩
          rw [show (((don2.length : Int) - 1).toNat) = don2.length - 1 from by omega]
          simp (disch := omega) only [go_sem, seval, e0]
          refine ACalls.det (k3 _) ?_
          simp (disch := omega) only [go_sem, seval, encI_len]
        rotate_left
        focus
          simp (disch := omega) only [go_sem, seval, encI_len]
        all_goals
          refine awp_loopL (β := SmS) x [1, 7, 8, 9, 10, 12, 41, 42, 43, 48, 49, 50, 78, 79, 80] (fun d _ => [(1, .ptr (some (h.length, 0))), (7, .sl (encI P) .free), (8, .map (some (h.length + 1))), (9, .int .i64 don.length), (10, .sl (encII (XS b)) .free), (12, .sl (encI x) .free), (41, .sl [.sl (encII (XS false)) .free, .sl (encII (XS true)) .free] .full), (42, .int .i64 2), (43, .int .i64 don.length), (48, .sl (encII (XS b)) .free), (49, .int .i64 (XS b).length), (50, .int .i64 don2.length), (78, .sl (encI x) .free), (79, .int .i64 x.length), (80, .int .i64 d.length)])
            (fun s => K s.M ++ s.j) (fun d _ s => s.M = mapV LA (don2.flatten ++ d) s.ks b ∧ KsOK LA (don2.flatten ++ d) s.ks b) ⟨ks, M, j⟩ ?_ rfl ⟨by rw [List.append_nil]; exact hM, by rw [List.append_nil]; exact hk⟩ Ty.mixed (by kernel_rfl) ?_ ?_
          · simp (disch := omega) only [go_sem, seval]
          · clear hM hk
            rintro d y q ⟨ks, M, j⟩ hdq ⟨hM, hk⟩
            simp only at hM hk ⊢
            subst hM
            have hdl : x.length = d.length + (q.length + 1) := by rw [hdq]; simp
            have e3 : (encI x)[d.length]? = some (.int .i64 y) := by rw [hdq]; simp [encI]
            have hshl : IntKind.i64.wrap (1 * 2 ^ min don.length 64) = (if b then 2 else 1) := by
              rw [hdb.1]; cases b <;> decide +kernel
            have hnew := met_new hk y
            have hput := put_entsV (f := metV (phA LA (don2.flatten ++ d) b) (phB (don2.flatten ++ d) b)) (f' := metV (phA LA (don2.flatten ++ d ++ [y]) b) (phB (don2.flatten ++ d ++ [y]) b)) y ks hk.nd (fun z hz => met_off hz)
            simp (disch := omega) only [go_sem, seval]
            refine aIf.pos (by omega) ?_
            simp (disch := omega) only [go_sem, seval, e3, Km, mapV, look_entsV, hshl, hnew, hput, Sm]
            refine ⟨rowsOK_I _, by rw [encI_len]; omega, ?_⟩
            rw [show (encI x).take d.length = encI d from by rw [hdq, encI_take]; simp]
            refine aAp_full (rowsOK_I []) (rowsOK_I _) (by simp [encI_len]; omega) (by simp [encI_len]; omega) ?_
            simp (disch := omega) only [go_sem, seval, List.nil_append, encI_len]
            refine ⟨rowsOK_I _, by omega, by omega, ?_⟩
            rw [show (encI x).drop ((d.length : Int) + 1).toNat = encI q from by rw [show ((d.length : Int) + 1).toNat = d.length + 1 from by omega, hdq, encI_drop]; simp]
            refine aAp_arena (by simp (disch := omega) only [go_sem, seval, List.length_nil, Nat.zero_add, encI_len]) (rowsOK_I _) (rowsOK_I _) (by simp [encI_len]; omega) (by simp [encI_len]; omega) ?_
            rw [encI_app2]
            simp (disch := omega) only [go_sem, seval, encI_len]
            have hless := fine_less hck (b := b) (d := d) (q := q) (p := y) (by rw [hPe, ← hdq]; exact hxm)
            rw [hPe] at hless
            obtain ⟨hls, hlf⟩ := hless
            have hll := hls.length_le
            have hwl := wtF_len P (d ++ q)
            have hkn := hk.add y
            rw [List.append_assoc] at hkn
            cases b with
            | true =>
              have hd1 : don.length = 1 := hdb.1
              have hperm : permF g (wtF P (d ++ q)) = true := by
                have : blkP g (d ++ q) = false := hlf
                rw [blkP, hPe] at this; simpa using this
              have q1 := fun h => without_calls Γ P (d ++ q) h (by omega) (by omega)
              have q2 := fun h => Holds_calls Γ g (wtF P (d ++ q)) h hs (by omega)
              rw [(permF_asc hck (by rw [← hPe]; exact sub_asc hck (wt_sub _ _))).1, hperm, encR, eG] at q2
              rw [hd1]
              simp (disch := omega) only [go_sem, seval]
              refine ACalls.det (ACalls.ofLoose (q1 _) (by simp (disch := omega) only [go_sem, seval, looseL, loose, loose_I])) ?_
              simp (disch := omega) only [go_sem, seval, Kg, List.append_assoc]
              refine ACalls.det (ACalls.ofLoose (q2 _) (by simp (disch := omega) only [go_sem, seval, looseL, loose, loose_I, loose_Gs])) ?_
              simp (disch := omega) only [go_sem, seval]
              refine roundL_next ⟨addK y ks, _, j ++ [.arena (d.length + q.length)]⟩ ⟨rfl, hkn⟩ ?_ rfl
              simp (disch := omega) only [go_sem, seval, List.length_append]
            | false =>
              have hd1 : don.length = 0 := hdb.1
              have hperm : permF g (d ++ q) = false := hlf
              have q2 := fun h => Holds_calls Γ g (d ++ q) h hs (by omega)
              rw [(permF_asc hck (sub_asc hck (by rw [hPe]; exact hls))).1, hperm, encR, eG] at q2
              rw [hd1]
              simp (disch := omega) only [go_sem, seval, Kg, List.append_assoc]
              refine ACalls.det (ACalls.ofLoose (q2 _) (by simp (disch := omega) only [go_sem, seval, looseL, loose, loose_I, loose_Gs])) ?_
              simp (disch := omega) only [go_sem, seval]
              refine roundL_next ⟨addK y ks, _, j ++ [.arena (d.length + q.length)]⟩ ⟨rfl, hkn⟩ ?_ rfl
              simp (disch := omega) only [go_sem, seval, List.length_append]
          · clear hM hk
            rintro ⟨ks, M, j⟩ ⟨hM, hk⟩
            simp only at hM hk ⊢
            simp (disch := omega) only [go_sem, seval]
            refine AWP.keep [1, 7, 8, 9, 10, 41, 42, 43, 48, 49, 50] (aCode_ok Ty.mixed _ _ _ _ (by kernel_rfl) ?_)
            simp (disch := omega) only [go_sem, seval]
            have hfl : don2.flatten ++ x = (don2 ++ [x]).flatten := by simp
            rw [hfl] at hM hk
            refine roundL_next ⟨ks, M, j⟩ ⟨hM, hk⟩ ?_ rfl
            simp (disch := omega) only [go_sem, seval, List.length_append]
      · rintro ⟨ks, M, j⟩ ⟨hM, hk⟩
        simp only at hM hk ⊢
        simp (disch := omega) only [go_sem, seval]
        refine AWP.keep [1, 7, 8, 41, 42, 43] (aCode_ok Ty.mixed _ _ _ _ (by kernel_rfl) ?_)
        simp (disch := omega) only [go_sem, seval]
        refine roundL_next ⟨ks, M, j⟩ ⟨fun e => by simp at e, fun e => ?_, fun e => ?_⟩ ?_ rfl
        · simp at e
          subst e
          have : b = false := by cases b; · rfl
                                 · simp at hdb
          subst this
          rw [← hLA] at hM hk
          exact ⟨hM, ⟨hk.nd, hk.mem⟩⟩
        · have : b = true := by
            cases b with
            | true => rfl
            | false => rw [List.length_append, hdb.1] at e; simp at e
          subst this
          exact ⟨hM, hk⟩
        · simp (disch := omega) only [go_sem, seval, List.length_append]
    · rintro ⟨ks, M, j⟩ ⟨_, _, i2⟩
      obtain ⟨hM, hk⟩ := i2 rfl
      simp only at hM hk ⊢
      subst hM
      have hval : ∀ b, b < ks.length → metV LA (XS true).flatten (ks.getD b 0) = 3 := fun b hb => by
        have hx : ks.getD b 0 ∈ ks := by rw [List.getD_eq_getElem?_getD, List.getElem?_eq_getElem hb]; exact List.getElem_mem hb
        generalize ks.getD b 0 = x at hx
        have hx2 : x ∈ LA ∨ x ∈ (XS true).flatten := (hk.mem x).1 hx
        have hAB : x ∈ LA → x ∈ (XS true).flatten := fun h1 => by
          rw [hLA, List.mem_flatten] at h1
          obtain ⟨s, h2, h3⟩ := h1
          rw [hXS] at h2
          obtain ⟨t, h4, h5⟩ := met_both (fine := holdP g) (fino := blkP g) hP (by rw [← hPe]; exact hold_mono hck) (fun s _ => by rw [blkP, hPe]; rfl) h2 h3
          rw [List.mem_flatten]
          exact ⟨t, by rw [hXS]; exact h4, h5⟩
        have hBA : x ∈ (XS true).flatten → x ∈ LA := fun h1 => by
          rw [List.mem_flatten] at h1
          obtain ⟨s, h2, h3⟩ := h1
          rw [hXS] at h2
          obtain ⟨t, h4, h5⟩ := met_both (fine := blkP g) (fino := holdP g) hP (by rw [← hPe]; exact blk_mono hck) (fun s hs => by rw [← hPe] at hs ⊢; exact hold_dual hck s hs) h2 h3
          rw [hLA, List.mem_flatten]
          exact ⟨t, by rw [hXS]; exact h4, h5⟩
        have h1 : x ∈ LA := hx2.elim id hBA
        rw [metV, if_pos h1, if_pos (hAB h1)]; rfl
      have Kj : ∀ M o, (K M ++ (j ++ [o]))[h.length + 2 + j.length]? = some o := fun M o => by rw [← Kl M, hget_add]; simp
      have Sj : ∀ M o o', (K M ++ (j ++ [o])).set (h.length + 2 + j.length) o' = K M ++ (j ++ [o']) := fun M o o' => by rw [← Kl M, hset_add]; simp
      simp (disch := omega) only [go_sem, seval]
      refine AWP.keep [8] (aCode_ok Ty.mixed _ _ _ _ (by kernel_rfl) ?_)
      simp (disch := omega) only [go_sem, seval, Km, mapV, Kl]
      have hph : ∀ x, metV (phA LA (XS true).flatten true) (phB (XS true).flatten true) x = metV LA (XS true).flatten x := fun _ => rfl
      obtain ⟨f, hf⟩ : ∃ f, f = metV (phA LA (XS true).flatten true) (phB (XS true).flatten true) := ⟨_, rfl⟩
      rw [← hf]
      have hval2 : ∀ b, b < ks.length → f (ks.getD b 0) = 3 := fun b hb => by rw [hf]; exact hval b hb
      obtain ⟨E, hE⟩ : ∃ E, E = entsV f 0 ks := ⟨_, rfl⟩
      rw [← hE]
      refine awp_loopS (α := List Nat) [124] (fun _ => [(124, .ptr (some (h.length + 2 + j.length, 0)))]) (fun seen => K (.map E ks.length) ++ (j ++ [.iter (some (h.length + 1)) ks.length seen]))
        (fun seen => seen.Nodup ∧ ∀ b ∈ seen, b < ks.length) (fun seen => ks.length - seen.length) [] ?_ rfl ⟨.nil, by simp⟩ Ty.mixed (by kernel_rfl) ?_
      · simp (disch := omega) only [go_sem, seval]
      rintro seen ⟨hn1, hn2⟩
      have hml := met_len hn1 hn2
      simp (disch := omega) only [go_sem, seval, Kj, Km]
      refine ⟨rfl, ?_, ?_, ?_⟩
      · intro e he
        rw [hE] at he
        obtain ⟨b, hb1, rfl⟩ := entsV_mem _ _ _ he
        simpa using hb1
      · intro hall
        simp (disch := omega) only [go_sem, seval]
        refine AWP.keep [] (aCode_ok Ty.mixed _ _ _ _ (by kernel_rfl) ?_)
        simp (disch := omega) only [go_sem, seval]
        exact KD _ _
      · intro e he hns
        rw [hE] at he
        obtain ⟨b, hb1, rfl⟩ := entsV_mem _ _ _ he
        have hfd := entsV_at f ks 0 b hb1
        rw [Nat.zero_add, ← hE] at hfd
        have h3 := hval2 b hb1
        rw [h3] at hfd
        rw [Sj]
        simp (disch := omega) only [go_sem, seval, Kj, Km, Sj, hfd]
        have hq1 : (seen ++ [b]).Nodup := by rw [List.nodup_append]; exact ⟨hn1, by simp, by simpa using fun a ha e => hns (by simpa [← e] using ha)⟩
        have hq2 : ∀ a ∈ seen ++ [b], a < ks.length := by
          intro a ha
          rcases List.mem_append.1 ha with ha | ha
          · exact hn2 a ha
          · simp at ha; omega
        have hq3 := met_len hq1 hq2
        refine roundS_next (seen ++ [b]) ?_ ⟨hq1, hq2⟩ ?_ rfl
        · simp only [List.length_append, List.length_cons, List.length_nil] at hq3 ⊢; omega
        · simp (disch := omega) only [go_sem, seval]
end Go.Proofs.Ytnioapinljedmaa
