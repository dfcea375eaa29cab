/- Texts joined: AccZd. No conditions. -/
import Derived.Test.YtelehpccfaedjaaMrCJ
/- AccountsNever: the code. No conditions. -/
set_option linter.unusedSimpArgs false
set_option linter.unusedVariables false
namespace Go.Proofs.Ytelehpccfaedjaa
open Go Go.Proofs Go.Abs

theorem rowsOK_U (l : List Us) : RowsOK 5 (encUs l) := fun r hr => by
  obtain ⟨x, _, rfl⟩ := List.mem_map.1 hr
  refine ⟨rfl, fun c hc => ?_⟩
  simp only [encU, AV.cells, List.mem_cons, List.not_mem_nil, or_false] at hc
  rcases hc with rfl | rfl | rfl | rfl | rfl <;> rfl
theorem encUs_app (l m : List Us) : encUs (l ++ m) = encUs l ++ encUs m := by simp [encUs]
theorem encUs_snoc (l : List Us) (x : Us) : encUs l ++ [encU x] = encUs (l ++ [x]) := by simp [encUs]
theorem encUs_take (l : List Us) (k : Nat) : (encUs l).take k = encUs (l.take k) := by simp [encUs, List.map_take]
theorem encUs_drop (l : List Us) (k : Nat) : (encUs l).drop k = encUs (l.drop k) := by simp [encUs, List.map_drop]
theorem _root_.Go.Abs.OwnAt.shift {K k j : AH} {n : Nat} {own : Abs.Own} (ho : OwnAt (K ++ k) j n own) : OwnAt K (k ++ j) n own := by
  cases own with
  | full => trivial
  | free => exact ho
  | arena i =>
    obtain ⟨i', rfl, e⟩ := ho
    exact ⟨k.length + i', by rw [List.length_append]; omega, by rw [hget_add]; exact e⟩
structure UsS where
  l : List Us
  own : Abs.Own
  j : AH
set_option maxHeartbeats 4000000 in
set_option maxRecDepth 100000 in
theorem accNever_calls (Γ : Nat → Option (List AV)) (l : List Bg) (u : List Us) (known : Int) (h : AH) :
    ACalls Try.prog Γ 8 [.sl (encBs l) .free, .sl (encUs u) .free, .int .i64 known] h fun v h' => h' = h ∧ v = .bool true := by
  have c0 := fun h => right53_calls Γ l u [known] h (by simp)
  refine ACalls.drop ?_
  refine acalls_code (rs := [.tmp 6]) Try.func8 rfl rfl rfl rfl Ty.mixed (by kernel_rfl) ?_
  simp (disch := omega) only [go_sem, seval]
  refine ACalls.det (sane53_calls Γ _) ?_
  simp (disch := omega) only [go_sem, seval]
  refine ACalls.det ((c0 _).ofLoose (by simp (disch := omega) only [go_sem, seval, encI, List.map_cons, List.map_nil, loose_Bs])) ?_
  cases hr : ([known].all timeF && decide (l.length ≤ 20) && decide (u.length ≤ 20) && decide (errA l u = 0)) with
  | false => simp (disch := omega) only [go_sem, seval]
  | true =>
  simp only [List.all_cons, List.all_nil, Bool.and_true, Bool.and_eq_true, decide_eq_true_eq] at hr
  obtain ⟨⟨⟨hk, hl20⟩, hu20⟩, he⟩ := hr
  obtain ⟨k1, k2, k3, k4, k5, k6, k7⟩ := err0 he
  have hdocs := ((usesF_iff u []).1 k6).2.1
  simp (disch := omega) only [go_sem, seval, encUs_len]
  refine awp_loopL (β := UsS) u [0, 2, 7, 30, 31, 32] (fun don s => [(0, .sl (encBs l) .free), (2, .int .i64 known), (7, .sl (encUs s.l) s.own), (30, .sl (encUs u) .free), (31, .int .i64 u.length), (32, .int .i64 don.length)])
    (fun s => h ++ s.j) (fun don _ s => s.l.Perm don ∧ s.l.Pairwise fun a b => a.at_ ≤ b.at_) ⟨[], .full, []⟩ ?_ (by simp) ⟨.refl _, .nil⟩ Ty.mixed (by kernel_rfl) ?_ ?_
  · simp (disch := omega) only [go_sem, seval, encUs_nil]
  · rintro don x r ⟨m, own, jj⟩ hd ⟨hp, hs⟩
    simp only at hp hs ⊢
    have hlen : u.length = don.length + 1 + r.length := by rw [hd]; simp; omega
    have hml := hp.length_eq
    have e1 : (encUs u)[don.length]? = some (encU x) := by rw [hd]; exact encUs_get don r x
    have g1 : ∀ (R : AH), (h ++ (jj ++ R))[h.length + jj.length]? = R[0]? := fun R => by rw [hget_add, hget_zero]
    have g2 : ∀ (R : AH) (o : AObj), (h ++ (jj ++ R)).set (h.length + jj.length) o = h ++ (jj ++ R.set 0 o) := fun R o => by rw [hset_add, hset_zero]
    simp only [encU] at e1
    simp (disch := omega) only [go_sem, seval]
    refine aIf.pos (by omega) ?_
    simp (disch := omega) only [go_sem, seval, e1, g1, g2, List.length_append, encUs_len]
    refine awp_loopS (α := List Us × List Us) [0, 2, 7, 9, 10, 30, 31, 32] (fun s => [(0, .sl (encBs l) .free), (2, .int .i64 known), (7, .sl (encUs m) own), (9, .ptr (some (h.length + jj.length, 0))), (10, .int .i64 s.1.length), (30, .sl (encUs u) .free), (31, .int .i64 u.length), (32, .int .i64 don.length)])
      (fun _ => h ++ (jj ++ [.row [.int .i64 x.doc, .int .i64 x.kind, .int .i64 x.value, .int .i64 x.at_, .int .i64 x.known] 42])) (fun s => m = s.1 ++ s.2 ∧ ∀ y ∈ s.2, x.at_ < y.at_) (fun s => s.1.length) (m, []) ?_ rfl ⟨by simp, by simp⟩ Ty.mixed (by kernel_rfl) ?_
    · simp (disch := omega) only [go_sem, seval]
    rintro ⟨p, s⟩ ⟨hps, hgt⟩
    simp only at hps hgt ⊢
    simp (disch := omega) only [go_sem, seval, encUs_len]
    have hms : m.length = p.length + s.length := by rw [hps]; simp
    have fin : (∀ z ∈ p, z.at_ ≤ x.at_) → (p ++ [x] ++ s).Perm (don ++ [x]) ∧ (p ++ [x] ++ s).Pairwise fun a b => a.at_ ≤ b.at_ := fun hle => by
      have hs' := hs
      rw [hps, List.pairwise_append] at hs'
      constructor
      · have h1 : (p ++ [x] ++ s).Perm (p ++ s ++ [x]) := by
          rw [List.append_assoc, List.append_assoc]
          exact (List.perm_append_comm).append_left p
        rw [← hps] at h1
        exact h1.trans (hp.append_right [x])
      · rw [List.append_assoc, List.pairwise_append]
        refine ⟨hs'.1, ?_, fun a ha b hb => ?_⟩
        · rw [List.singleton_append, List.pairwise_cons]
          exact ⟨fun b hb => by have := hgt b hb; omega, hs'.2.1⟩
        · rw [List.singleton_append] at hb
          rcases List.mem_cons.1 hb with rfl | hb
          · exact hle a ha
          · exact hs'.2.2 a ha b hb
    rcases List.eq_nil_or_concat p with hpn | ⟨p', y, hpn⟩
    · refine aIf.neg (by rw [hpn]; simp) ?_
      simp (disch := omega) only [go_sem, seval, encUs_len]
      refine AWP.keep [0, 2, 7, 9, 10, 30, 31, 32] (aCode_ok Ty.mixed _ _ _ _ (by kernel_rfl) ?_)
      simp (disch := omega) only [go_sem, seval, encUs_len, g1, g2]
      refine ⟨rowsOK_U _, by omega, ?_⟩
      rw [encUs_take, show m.take p.length = p from by rw [hps]; simp]
      refine aAp_new (rowsOK_U _) (by rw [encUs_len]; omega) (by rw [encUs_len]; omega) fun j1 own1 ho1 => ?_
      replace ho1 := ho1.shift
      simp only [List.append_assoc, List.cons_append, List.nil_append] at ho1
      simp (disch := omega) only [go_sem, seval, g1]
      refine aAp_sl ho1 (rowsOK_U _) (rowsOK_U [x]) (by simp [encUs_len]; omega) (by simp [encUs_len]; omega) fun j2 own2 ho2 _ => ?_
      rw [show encUs p ++ [AV.agg [.int .i64 x.doc, .int .i64 x.kind, .int .i64 x.value, .int .i64 x.at_, .int .i64 x.known]] = encUs (p ++ [x]) from encUs_snoc p x]
      simp (disch := omega) only [go_sem, seval, encUs_len]
      refine ⟨rowsOK_U _, by omega, ?_⟩
      rw [encUs_drop, show m.drop p.length = s from by rw [hps]; simp]
      refine aAp_sl (by simpa [encUs_len] using ho2) (rowsOK_U _) (rowsOK_U _) (by simp [encUs_len]; omega) (by simp [encUs_len]; omega) fun j3 own3 ho3 _ => ?_
      rw [← encUs_app]
      simp (disch := omega) only [go_sem, seval]
      refine AWP.keep [0, 2, 7, 30, 31, 32] (aCode_ok Ty.mixed _ _ _ _ (by kernel_rfl) ?_)
      simp (disch := omega) only [go_sem, seval]
      refine roundL_next ⟨p ++ [x] ++ s, own3, j3⟩ (fin (by rw [hpn]; simp)) ?_ (by simp)
      simp (disch := omega) only [go_sem, seval, List.length_append]
    rw [List.concat_eq_append] at hpn
    have hpl : p.length = p'.length + 1 := by rw [hpn]; simp
    have e3 : (encUs m)[p'.length]? = some (encU y) := by rw [hps, hpn, List.append_assoc]; exact encUs_get p' _ y
    simp only [encU] at e3
    have e4 : ((p.length : Int) - 1).toNat = p'.length := by omega
    refine aIf.pos (by omega) ?_
    simp (disch := omega) only [go_sem, seval, encUs_len, e3, e4, g1, g2]
    refine ⟨by omega, ?_⟩
    refine aIf.intro (fun h2 => ?_) (fun h2 => ?_) <;> simp (disch := omega) only [go_sem, seval, encUs_len, g1, g2]
    · refine roundS_next (p', y :: s) (by simp only [hpl]; omega) ⟨by rw [hps, hpn]; simp, fun z hz => ?_⟩ ?_ rfl
      · rcases List.mem_cons.1 hz with rfl | hz
        · exact h2
        · exact hgt z hz
      · simp (disch := omega) only [go_sem, seval, hpl]
    · have hle : ∀ z ∈ p' ++ [y], z.at_ ≤ x.at_ := fun z hz => by
        rcases List.mem_append.1 hz with hz | hz
        · have hs' := hs
          rw [hps, hpn, List.append_assoc] at hs'
          have := (List.pairwise_append.1 hs').2.2 z hz y (by simp)
          omega
        · rw [List.mem_singleton] at hz; subst hz; omega
      refine AWP.keep [0, 2, 7, 9, 10, 30, 31, 32] (aCode_ok Ty.mixed _ _ _ _ (by kernel_rfl) ?_)
      simp (disch := omega) only [go_sem, seval, encUs_len, g1, g2]
      refine ⟨rowsOK_U _, by omega, ?_⟩
      rw [encUs_take, show m.take p.length = p from by rw [hps]; simp]
      refine aAp_new (rowsOK_U _) (by rw [encUs_len]; omega) (by rw [encUs_len]; omega) fun j1 own1 ho1 => ?_
      replace ho1 := ho1.shift
      simp only [List.append_assoc, List.cons_append, List.nil_append] at ho1
      simp (disch := omega) only [go_sem, seval, g1]
      refine aAp_sl ho1 (rowsOK_U _) (rowsOK_U [x]) (by simp [encUs_len]; omega) (by simp [encUs_len]; omega) fun j2 own2 ho2 _ => ?_
      rw [show encUs p ++ [AV.agg [.int .i64 x.doc, .int .i64 x.kind, .int .i64 x.value, .int .i64 x.at_, .int .i64 x.known]] = encUs (p ++ [x]) from encUs_snoc p x]
      simp (disch := omega) only [go_sem, seval, encUs_len]
      refine ⟨rowsOK_U _, by omega, ?_⟩
      rw [encUs_drop, show m.drop p.length = s from by rw [hps]; simp]
      refine aAp_sl (by simpa [encUs_len] using ho2) (rowsOK_U _) (rowsOK_U _) (by simp [encUs_len]; omega) (by simp [encUs_len]; omega) fun j3 own3 ho3 _ => ?_
      rw [← encUs_app]
      simp (disch := omega) only [go_sem, seval]
      refine AWP.keep [0, 2, 7, 30, 31, 32] (aCode_ok Ty.mixed _ _ _ _ (by kernel_rfl) ?_)
      simp (disch := omega) only [go_sem, seval]
      refine roundL_next ⟨p ++ [x] ++ s, own3, j3⟩ (fin (fun z hz => by rw [hpn] at hz; exact hle z hz)) ?_ (by simp)
      simp (disch := omega) only [go_sem, seval, List.length_append]
  · rintro ⟨m, own, jj⟩ ⟨hp, hs⟩
    simp only at hp hs
    simp (disch := omega) only [go_sem, seval]
    refine AWP.keep [0, 2, 7] (aCode_ok Ty.mixed _ _ _ _ (by kernel_rfl) ?_)
    simp (disch := omega) only [go_sem, seval, encUs_len]
    have hdm : (m.map fun y => y.doc).Nodup := (hp.map _).nodup_iff.2 hdocs
    have hml := hp.length_eq
    have hmr : ∀ x ∈ m, rightU x = true := fun x hx => k7 x (hp.mem_iff.1 hx)
    refine awp_loopL (β := UsS) m [0, 2, 11, 66, 67, 68] (fun don s => [(0, .sl (encBs l) .free), (2, .int .i64 known), (11, .sl (encUs s.l) s.own), (66, .sl (encUs m) own), (67, .int .i64 m.length), (68, .int .i64 don.length)])
      (fun s => h ++ s.j) (fun don _ s => OwnAt h s.j s.l.length s.own ∧ Signed l s.l don known) ⟨[], .full, jj⟩ ?_ rfl ⟨trivial, ?_⟩ Ty.mixed (by kernel_rfl) ?_ ?_
    · simp (disch := omega) only [go_sem, seval, encUs_nil]
    · exact ⟨by simp, by simp, by simp, by simp, by rw [overF_nil k5]; simp⟩
    · rintro don x r ⟨S, ow, j⟩ hd ⟨ho, hS⟩
      simp only at ho hS ⊢
      have hlen : m.length = don.length + 1 + r.length := by rw [hd]; simp; omega
      have e1 : (encUs m)[don.length]? = some (encU x) := by rw [hd]; exact encUs_get don r x
      have hrx := hmr x (by rw [hd]; simp)
      have hxf := rightU_facts hrx
      have hkf := timeF_facts hk
      obtain ⟨a1, a2, a3, a4, a5⟩ := hS.facts (n := known) hrx hk (by rw [← hd]; exact hs) (by rw [← hd]; exact hdm) (by rw [← hd]; omega) k1
      have hkx : inR x.kind 0 15 = true := by simp only [inR, Bool.and_eq_true, decide_eq_true_eq]; omega
      have hvx : inR x.value 0 1099511627776 = true := by simp only [inR, Bool.and_eq_true, decide_eq_true_eq]; omega
      have htx : timeF x.at_ = true := by simp only [timeF, show END = 1099511627776 from rfl, Bool.and_eq_true, decide_eq_true_eq]; omega
      have c1 := fun h => room_calls Γ l S x.kind x.value x.at_ known h a1 hkx hvx htx hk
      have c2 := fun h => pOver_calls Γ l (S ++ [knownAt x known]) known h (by omega) (by simp; omega)
      rw [show overR l (S ++ [knownAt x known]) known = (overF l (S ++ [knownAt x known]) known, 0) from by rw [overR, if_neg (by simpa using a2), if_pos hk]] at c2
      have g1 : ∀ (R : AH), (h ++ (j ++ R))[h.length + j.length]? = R[0]? := fun R => by rw [hget_add, hget_zero]
      have g2 : ∀ (R : AH) (o : AObj), (h ++ (j ++ R)).set (h.length + j.length) o = h ++ (j ++ R.set 0 o) := fun R o => by rw [hset_add, hset_zero]
      simp only [encU] at e1
      have hmin : (if known < x.known then known else x.known) = min x.known known := by split <;> omega
      have hkn : AV.agg [.int .i64 x.doc, .int .i64 x.kind, .int .i64 x.value, .int .i64 x.at_, .int .i64 (min x.known known)] = encU (knownAt x known) := rfl
      have g4 : ∀ (a b : AObj), (h ++ (j ++ [a, b]))[h.length + (j.length + 1)]? = some b := fun a b => by rw [hget_add, hget_add]; rfl
      have g5 : ∀ (a b c : AObj), (h ++ (j ++ [a, b])).set (h.length + (j.length + 1)) c = h ++ (j ++ [a, c]) := fun a b c => by rw [hset_add, hset_add]; rfl
      simp (disch := omega) only [go_sem, seval]
      refine aIf.pos (by omega) ?_
      simp (disch := omega) only [go_sem, seval, e1, g1, g2, List.length_append, hmin]
      refine ACalls.det ((c1 _).ofLoose (by simp (disch := omega) only [go_sem, seval, loose_Bs])) ?_
      cases hroom : roomF l S x.kind x.value x.at_ known with
      | some b =>
        rw [roomV]
        have hne := never_no k5 a3 a4 hroom
        simp (disch := omega) only [go_sem, seval, g1, g2]
        refine aAp_full (rowsOK_U []) (rowsOK_U _) (by simp [encUs_len]; omega) (by simp [encUs_len]; omega) ?_
        simp (disch := omega) only [go_sem, seval, g1, List.length_append]
        rw [hkn]
        refine aAp_arena (by simp [encUs_len, List.append_assoc, g4]) (rowsOK_U _) (rowsOK_U [knownAt x known]) (by simp [encUs_len]; omega) (by simp [encUs_len]; omega) ?_
        rw [encUs_snoc]
        simp (disch := omega) only [go_sem, seval, g5]
        refine ACalls.det ((c2 _).ofLoose (by simp (disch := omega) only [go_sem, seval, loose_Bs])) ?_
        simp (disch := omega) only [go_sem, seval, encI_len]
        have hpos : 0 < (overF l (S ++ [knownAt x known]) known).length := List.length_pos_iff.2 hne
        refine aIf.neg (by omega) ?_
        simp (disch := omega) only [go_sem, seval]
        refine roundL_next (⟨S, ow, j ++ [.row [.int .i64 x.doc, .int .i64 x.kind, .int .i64 x.value, .int .i64 x.at_, .int .i64 (min x.known known)] 42, .arena (S.length + 1)]⟩ : UsS) ⟨ho.app _, hS.skip x⟩ ?_ (by simp [encUs_len])
        simp (disch := omega) only [go_sem, seval, List.length_append]
      | none =>
        rw [roomV]
        have hS2 := hS.more (n := known) k5 hrx hk (by rw [← hd]; exact hs) (by rw [← hd]; exact hdm) (by rw [← hd]; omega) k1 hroom
        rw [hS2.over] at c2
        simp (disch := omega) only [go_sem, seval, g1, g2]
        rw [hkn]
        refine aAp_sl (by rw [encUs_len]; exact ho.app _) (rowsOK_U _) (rowsOK_U [knownAt x known]) (by simp [encUs_len]; omega) (by simp [encUs_len]; omega) fun j2 own2 ho2 _ => ?_
        rw [encUs_snoc]
        simp (disch := omega) only [go_sem, seval]
        refine ACalls.det ((c2 _).ofLoose (by simp (disch := omega) only [go_sem, seval, loose_Bs])) ?_
        simp (disch := omega) only [go_sem, seval, encI_len, encI, List.map_nil]
        refine roundL_next (⟨S ++ [knownAt x known], own2, j2⟩ : UsS) ⟨by simpa [encUs_len] using ho2, hS2⟩ ?_ rfl
        simp (disch := omega) only [go_sem, seval, List.length_append]
    · rintro ⟨S, ow, j⟩ ⟨ho, hS⟩
      simp (disch := omega) only [go_sem, seval]
      refine AWP.keep [] (aCode_ok Ty.mixed _ _ _ _ (by kernel_rfl) ?_)
      simp (disch := omega) only [go_sem, seval]
end Go.Proofs.Ytelehpccfaedjaa
