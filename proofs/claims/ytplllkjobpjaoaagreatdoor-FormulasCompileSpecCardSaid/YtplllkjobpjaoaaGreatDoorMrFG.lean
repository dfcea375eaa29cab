/- Texts joined: FrY, FrZ. No conditions. -/
import Derived.Test.YtplllkjobpjaoaaGreatDoorMrFC
import Derived.Test.YtplllkjobpjaoaaGreatDoorMrFD
import Derived.Test.YtplllkjobpjaoaaGreatDoorMrFA
import Derived.Test.YtplllkjobpjaoaaGreatDoorMrFF
/- The reference's formula, checked, Same. No conditions. -/
set_option linter.unusedSimpArgs false
set_option linter.unusedVariables false
namespace Go.Proofs.YtplllkjobpjaoaaGreatDoor
open Go Go.Proofs Go.Abs

set_option maxRecDepth 100000 in
theorem rchecked_calls (Γ : Nat → Option (List AV)) (g : Fr.Gt) (h : AH) (hg : Fr.Sh g) :
    ACalls Tryz.prog Γ 23 [Fr.encG g] h fun v h' => h' = h ∧ v = .tuple [Fr.encG (chkG g).1, .int .i64 (chkG g).2] := by
  have c := fun h => Fr.refcheck_calls Γ g h hg
  have hd : chkG g = if Fr.checkF g = 0 then (g, 0) else (zeroG, 2) := rfl
  obtain ⟨p, n, l, rfl⟩ : ∃ p n l, g = .mk p n l := by cases g with | mk p n l => exact ⟨p, n, l, rfl⟩
  refine ACalls.dropL ?_
  rw [Fr.encG_mk] at c ⊢
  refine acalls_code (rs := [.cell 2 34, .tmp 3]) Tryz.func23 rfl rfl rfl rfl Ty.mixed (by kernel_rfl) ?_
  simp (disch := omega) only [go_sem, seval]
  refine ACalls.det (c _) ?_
  simp (disch := omega) only [go_sem, seval]
  refine aIf.intro (fun h1 => ?_) (fun h1 => ?_) <;> simp (disch := omega) only [go_sem, seval]
  · rw [hd, if_pos h1, Fr.encG_mk]
    try simp only [looseL, loose, Fr.loose_Gs]
  · rw [hd, if_neg h1, zeroG, Fr.encG_mk]
    try simp only [looseL, loose, List.map_nil]
set_option maxRecDepth 100000 in
theorem gsame_k (Γ : Nat → Option (List AV)) : ∀ (m : Nat) (g : Fr.Gt) (h : AH), SizeOf.sizeOf g < m → Fr.Sh g → ACalls Tryz.prog Γ 10 [Fr.encG g, Fr.encG g] h fun v h' => h' = h ∧ v = .bool true
  | 0, _, _, hk, _ => absurd hk (Nat.not_lt_zero _)
  | m + 1, .mk p n l, h, hsz, hs => by
    have hl := hs.len
    have IH : ∀ x ∈ l, ∀ h, ACalls Tryz.prog Γ 10 [Fr.encG x, Fr.encG x] h fun v h' => h' = h ∧ v = .bool true := fun x hx h => gsame_k Γ m x h (Fr.mem_sz hx hsz) (hs.mem x hx)
    refine ACalls.drop ?_
    rw [Fr.encG_mk]
    refine acalls_code (rs := [.tmp 4]) Tryz.func10 rfl rfl rfl rfl Ty.mixed (by kernel_rfl) ?_
    simp (disch := omega) only [go_sem, seval]
    refine awp_loopL (β := Unit) l [2, 3, 5] (fun don _ => [(2, .ptr (some (h.length, 0))), (3, .ptr (some (h.length + 1, 0))), (5, .int .i64 don.length)]) (fun _ => h ++ [.row [.int .i64 p, .int .i64 n, .sl (l.map Fr.encG) .free] 34, .row [.int .i64 p, .int .i64 n, .sl (l.map Fr.encG) .free] 34]) (fun _ _ _ => True) () ?_ rfl trivial Ty.mixed (by kernel_rfl) ?_ ?_
    · simp (disch := omega) only [go_sem, seval, List.length_nil]
    · rintro don x r _ hd _
      have hlen : l.length = don.length + 1 + r.length := by rw [hd]; simp; omega
      have e1 : (l.map Fr.encG)[don.length]? = some (Fr.encG x) := by rw [hd]; exact rowMid ..
      have c := IH x (by rw [hd]; simp)
      obtain ⟨xp, xn, xl, rfl⟩ : ∃ p n l, x = .mk p n l := by cases x with | mk p n l => exact ⟨p, n, l, rfl⟩
      rw [Fr.encG_mk] at e1 c
      simp (disch := omega) only [go_sem, seval, List.length_map]
      refine aIf.pos (by omega) ?_
      simp (disch := omega) only [go_sem, seval, e1, List.length_map]
      refine aCallF.intro (fun _ => c _) ?_
      simp (disch := omega) only [go_sem, seval]
      refine roundL_next () trivial ?_ rfl
      simp (disch := omega) only [go_sem, seval, List.length_append]
    · rintro _ _
      simp (disch := omega) only [go_sem, seval, List.length_map]
      refine AWP.keep [] (aCode_ok Ty.mixed _ _ _ _ (by kernel_rfl) ?_)
      simp (disch := omega) only [go_sem, seval]
theorem gsame_calls (Γ : Nat → Option (List AV)) (g : Fr.Gt) (h : AH) (hs : Fr.Sh g) : ACalls Tryz.prog Γ 10 [Fr.encG g, Fr.encG g] h fun v h' => h' = h ∧ v = .bool true := gsame_k Γ _ g h (Nat.lt_succ_self _) hs
def RForC (Γ : Nat → Option (List AV)) (v : Int) (hs : List (List Hd)) (x : Ex) : Prop :=
  ∀ h, ACalls Tryz.prog Γ 24 [encX x, .int .i64 v, .sl (encHl hs) .free] h fun w h' => h' = h ∧ w = Fr.encG (formG v hs x)
def rfK (h : AH) (k : Int) (x : Ex) (n : Int) (rows : List AV) (own : Abs.Own) : AH := h ++ [.row [.int .i64 k, .int .i64 x.n, .int .i64 x.no, .str ⟨⟨x.name⟩⟩, .sl (x.l.map encX) .free] 26, .row [.int .i64 0, .int .i64 0, .sl [] .full] 34, .row [.int .i64 (-1), .int .i64 n, .sl rows own] 34]
set_option maxHeartbeats 4000000 in
set_option maxRecDepth 100000 in
theorem rf1_calls (Γ : Nat → Option (List AV)) (v : Int) (hs : List (List Hd)) (x : Ex) (h : AH) (hno : 0 ≤ x.no ∧ x.no < hs.length) (hl : (rowH hs x.no).length ≤ 100) (hw : ∀ y ∈ rowH hs x.no, 0 ≤ (fun _ => (1 : Int)) y ∧ (fun _ => (1 : Int)) y ≤ 64) :
    ACalls Tryz.prog Γ 24 [.agg [.int .i64 1, .int .i64 x.n, .int .i64 x.no, .str ⟨⟨x.name⟩⟩, .sl (x.l.map encX) .free], .int .i64 v, .sl (encHl hs) .free] h fun w h' => h' = h ∧ w = Fr.encG (.mk (-1) 1 (repG (fun _ => (1 : Int)) (rowH hs x.no))) := by
  refine ACalls.dropL ?_
  rw [Fr.encG_mk]
  have er : (encHl hs)[x.no.toNat]? = some (.sl ((rowH hs x.no).map encHd) .free) := row_get hno
  obtain ⟨l, hl0⟩ : ∃ l, rowH hs x.no = l := ⟨_, rfl⟩
  rw [hl0] at hl hw er ⊢
  have hrl : ∀ dn r, l = dn ++ r → (repV (fun _ => (1 : Int)) dn).length ≤ 64 * dn.length := fun dn r e => by
    rw [repV_len]; exact rep_len (fun _ => (1 : Int)) (fun _ => trivial) dn fun y hy => by have := (hw y (by rw [e]; simp [hy])).2; first | exact this | simpa using this
  refine acalls_code (rs := [.cell 6 34]) Tryz.func24 rfl rfl rfl rfl Ty.mixed (by kernel_rfl) ?_
  simp (disch := omega) only [go_sem, seval, encHl_len]
  refine ⟨by omega, ?_⟩
  simp (disch := omega) only [go_sem, seval, er]
  have g0 : ∀ rows own X, (rfK h 1 x 1 rows own ++ X)[h.length]? = some (.row [.int .i64 1, .int .i64 x.n, .int .i64 x.no, .str ⟨⟨x.name⟩⟩, .sl (x.l.map encX) .free] 26) := fun rows own X => by simp [rfK]
  have g2 : ∀ rows own X, (rfK h 1 x 1 rows own ++ X)[h.length + 2]? = some (.row [.int .i64 (-1), .int .i64 1, .sl rows own] 34) := fun rows own X => by simp [rfK]
  have s2 : ∀ rows own X rows' own', (rfK h 1 x 1 rows own ++ X).set (h.length + 2) (.row [.int .i64 (-1), .int .i64 1, .sl rows' own'] 34) = rfK h 1 x 1 rows' own' ++ X := fun rows own X rows' own' => by simp [rfK]
  refine awp_loopL (β := Abs.Own × AH × List AV) l [3, 6, 7, 8, 9] (fun dn b => [(3, .ptr (some (h.length, 0))), (6, .ptr (some (h.length + 1, 0))), (7, .ptr (some (h.length + 2, 0))), (8, .sl (l.map encHd) .free), (9, .int .i64 dn.length)]) (fun b => rfK h 1 x 1 b.2.2 b.1 ++ b.2.1) (fun dn _ b => b.2.2 = repV (fun _ => (1 : Int)) dn ∧ OwnAt (rfK h 1 x 1 b.2.2 b.1) b.2.1 (repV (fun _ => (1 : Int)) dn).length b.1) (.full, [], []) ?_ (by simp [rfK]) ⟨rfl, trivial⟩ Ty.mixed (by kernel_rfl) ?_ ?_
  · simp (disch := omega) only [go_sem, seval, List.length_nil]
  · rintro dn y r ⟨own, X, rows⟩ hdn ⟨hrw, hown⟩
    simp only at hrw hown ⊢
    subst hrw
    have hlen : l.length = dn.length + 1 + r.length := by rw [hdn]; simp; omega
    have e1 : (l.map encHd)[dn.length]? = some (encHd y) := by rw [hdn]; exact rowMid ..
    have hb := hrl dn _ hdn
    have hwy := hw y (by rw [hdn]; simp)
    rw [encHd] at e1
    simp (disch := omega) only [go_sem, seval, List.length_map]
    refine aIf.pos (by omega) ?_
    simp (disch := omega) only [go_sem, seval, e1, g0, List.length_map]

    have hap : repV (fun _ => (1 : Int)) (dn ++ [y]) = repV (fun _ => (1 : Int)) dn ++ List.replicate 1 (Fr.oneV y.person) := by
      rw [repV, repV, List.flatMap_append, List.flatMap_cons, List.flatMap_nil, List.append_nil]; rfl
    refine awp_loopL (β := Abs.Own × AH × List AV) (List.replicate 1 ()) [3, 6, 7, 8, 9, 10, 11] (fun dm b => [(3, .ptr (some (h.length, 0))), (6, .ptr (some (h.length + 1, 0))), (7, .ptr (some (h.length + 2, 0))), (8, .sl (l.map encHd) .free), (9, .int .i64 dn.length), (10, .int .i64 1), (11, .int .i64 dm.length)]) (fun b => rfK h 1 x 1 b.2.2 b.1 ++ b.2.1) (fun dm _ b => b.2.2 = repV (fun _ => (1 : Int)) dn ++ List.replicate dm.length (Fr.oneV y.person) ∧ OwnAt (rfK h 1 x 1 b.2.2 b.1) b.2.1 ((repV (fun _ => (1 : Int)) dn).length + dm.length) b.1) (own, X, repV (fun _ => (1 : Int)) dn) ?_ ?_ ⟨by simp, hown⟩ Ty.mixed (by kernel_rfl) ?_ ?_
    · simp (disch := omega) only [go_sem, seval, List.length_nil]
    · simp
    · rintro dm u r2 ⟨ow, Z, rows⟩ hdm ⟨hrw, hownZ⟩
      simp only at hrw hownZ ⊢
      subst hrw
      have hl2 := rep_unit hdm
      simp (disch := omega) only [go_sem, seval]
      refine aIf.pos (by omega) ?_
      simp (disch := omega) only [go_sem, seval, g2, e1, List.length_map]
      have hro : RowsOK 3 (repV (fun _ => (1 : Int)) dn ++ List.replicate dm.length (Fr.oneV y.person)) := rowsOK_one _ fun a ha => by
        rcases List.mem_append.1 ha with ha | ha
        · exact repV_mem ha
        · exact ⟨_, List.eq_of_mem_replicate ha⟩
      have hlr : (repV (fun _ => (1 : Int)) dn ++ List.replicate dm.length (Fr.oneV y.person)).length = (repV (fun _ => (1 : Int)) dn).length + dm.length := by rw [List.length_append, List.length_replicate]
      rw [show [AV.agg [.int .i64 y.person, .int .i64 0, .sl [] .full]] = [Fr.oneV y.person] from rfl]
      refine aAp_sl (by rw [hlr]; exact hownZ) hro (rowsOK_one _ fun a ha => ⟨y.person, by simpa using ha⟩) (by rw [hlr, List.length_singleton]; omega) (by rw [hlr, List.length_singleton]; omega) fun j' own' ho' hg => ?_
      simp (disch := omega) only [go_sem, seval, g2, s2]
      refine roundL_next (own', j', repV (fun _ => (1 : Int)) dn ++ List.replicate (dm.length + 1) (Fr.oneV y.person)) ⟨by rw [List.length_append]; rfl, ?_⟩ ?_ ?_
      · rw [hlr] at ho'
        rw [List.length_append, List.length_singleton]
        refine OwnAt.len (K := rfK h 1 x 1 (repV (fun _ => (1 : Int)) dn ++ List.replicate dm.length (Fr.oneV y.person)) ow) ?_ (by simp [rfK])
        simpa [Nat.add_assoc] using ho'
      · simp (disch := omega) only [go_sem, seval, List.length_append]
      · simp only [List.replicate_succ', List.append_assoc]
    · rintro ⟨ow, Z, rows⟩ ⟨hrw, hownZ⟩
      simp only at hrw hownZ ⊢
      subst hrw
      simp (disch := omega) only [go_sem, seval, List.length_replicate]
      refine AWP.keep [3, 6, 7, 8, 9] (aCode_ok Ty.mixed _ _ _ _ (by kernel_rfl) ?_)
      simp (disch := omega) only [go_sem, seval]
      refine roundL_next (ow, Z, repV (fun _ => (1 : Int)) dn ++ List.replicate 1 (Fr.oneV y.person)) ⟨hap.symm, ?_⟩ ?_ ?_
      · rw [hap, List.length_append, List.length_replicate]
        rw [List.length_replicate] at hownZ
        exact hownZ
      · simp (disch := omega) only [go_sem, seval, List.length_append]
      · first | rw [List.length_replicate] | rfl
  · rintro ⟨own, X, rows⟩ ⟨hrw, hown⟩
    simp only at hrw hown ⊢
    subst hrw
    simp (disch := omega) only [go_sem, seval, List.length_map]
    rw [rfK]
    refine AWP.keep [3, 6, 7] (aCode_ok Ty.mixed _ _ _ _ (by kernel_rfl) ?_)
    simp (disch := omega) only [go_sem, seval]
    rw [loose_rep]
    exact ⟨Fr.rb_Gs _ _ ▸ trivial, rfl⟩
set_option maxHeartbeats 4000000 in
set_option maxRecDepth 100000 in
theorem rf2_calls (Γ : Nat → Option (List AV)) (v : Int) (hs : List (List Hd)) (x : Ex) (h : AH) (hno : 0 ≤ x.no ∧ x.no < hs.length) (hl : (rowH hs x.no).length ≤ 100) (hw : ∀ y ∈ rowH hs x.no, 0 ≤ (Hd.weight) y ∧ (Hd.weight) y ≤ 64) :
    ACalls Tryz.prog Γ 24 [.agg [.int .i64 2, .int .i64 x.n, .int .i64 x.no, .str ⟨⟨x.name⟩⟩, .sl (x.l.map encX) .free], .int .i64 v, .sl (encHl hs) .free] h fun w h' => h' = h ∧ w = Fr.encG (.mk (-1) x.n (repG (Hd.weight) (rowH hs x.no))) := by
  refine ACalls.dropL ?_
  rw [Fr.encG_mk]
  have er : (encHl hs)[x.no.toNat]? = some (.sl ((rowH hs x.no).map encHd) .free) := row_get hno
  obtain ⟨l, hl0⟩ : ∃ l, rowH hs x.no = l := ⟨_, rfl⟩
  rw [hl0] at hl hw er ⊢
  have hrl : ∀ dn r, l = dn ++ r → (repV (Hd.weight) dn).length ≤ 64 * dn.length := fun dn r e => by
    rw [repV_len]; exact rep_len (Hd.weight) (fun _ => trivial) dn fun y hy => by have := (hw y (by rw [e]; simp [hy])).2; first | exact this | simpa using this
  refine acalls_code (rs := [.cell 6 34]) Tryz.func24 rfl rfl rfl rfl Ty.mixed (by kernel_rfl) ?_
  simp (disch := omega) only [go_sem, seval, encHl_len]
  refine ⟨by omega, ?_⟩
  simp (disch := omega) only [go_sem, seval, er]
  have g0 : ∀ rows own X, (rfK h 2 x 1 rows own ++ X)[h.length]? = some (.row [.int .i64 2, .int .i64 x.n, .int .i64 x.no, .str ⟨⟨x.name⟩⟩, .sl (x.l.map encX) .free] 26) := fun rows own X => by simp [rfK]
  have g2 : ∀ rows own X, (rfK h 2 x 1 rows own ++ X)[h.length + 2]? = some (.row [.int .i64 (-1), .int .i64 1, .sl rows own] 34) := fun rows own X => by simp [rfK]
  have s2 : ∀ rows own X rows' own', (rfK h 2 x 1 rows own ++ X).set (h.length + 2) (.row [.int .i64 (-1), .int .i64 1, .sl rows' own'] 34) = rfK h 2 x 1 rows' own' ++ X := fun rows own X rows' own' => by simp [rfK]
  refine awp_loopL (β := Abs.Own × AH × List AV) l [3, 6, 7, 8, 9] (fun dn b => [(3, .ptr (some (h.length, 0))), (6, .ptr (some (h.length + 1, 0))), (7, .ptr (some (h.length + 2, 0))), (8, .sl (l.map encHd) .free), (9, .int .i64 dn.length)]) (fun b => rfK h 2 x 1 b.2.2 b.1 ++ b.2.1) (fun dn _ b => b.2.2 = repV (Hd.weight) dn ∧ OwnAt (rfK h 2 x 1 b.2.2 b.1) b.2.1 (repV (Hd.weight) dn).length b.1) (.full, [], []) ?_ (by simp [rfK]) ⟨rfl, trivial⟩ Ty.mixed (by kernel_rfl) ?_ ?_
  · simp (disch := omega) only [go_sem, seval, List.length_nil]
  · rintro dn y r ⟨own, X, rows⟩ hdn ⟨hrw, hown⟩
    simp only at hrw hown ⊢
    subst hrw
    have hlen : l.length = dn.length + 1 + r.length := by rw [hdn]; simp; omega
    have e1 : (l.map encHd)[dn.length]? = some (encHd y) := by rw [hdn]; exact rowMid ..
    have hb := hrl dn _ hdn
    have hwy := hw y (by rw [hdn]; simp)
    rw [encHd] at e1
    simp (disch := omega) only [go_sem, seval, List.length_map]
    refine aIf.pos (by omega) ?_
    simp (disch := omega) only [go_sem, seval, e1, g0, List.length_map]
    obtain ⟨n, hn⟩ : ∃ n : Nat, y.weight = n := ⟨y.weight.toNat, by omega⟩
    rw [hn]
    have hap : repV (Hd.weight) (dn ++ [y]) = repV (Hd.weight) dn ++ List.replicate n (Fr.oneV y.person) := by
      rw [repV, repV, List.flatMap_append, List.flatMap_cons, List.flatMap_nil, List.append_nil, hn]; rfl
    refine awp_loopL (β := Abs.Own × AH × List AV) (List.replicate n ()) [3, 6, 7, 8, 9, 10, 11] (fun dm b => [(3, .ptr (some (h.length, 0))), (6, .ptr (some (h.length + 1, 0))), (7, .ptr (some (h.length + 2, 0))), (8, .sl (l.map encHd) .free), (9, .int .i64 dn.length), (10, .int .i64 n), (11, .int .i64 dm.length)]) (fun b => rfK h 2 x 1 b.2.2 b.1 ++ b.2.1) (fun dm _ b => b.2.2 = repV (Hd.weight) dn ++ List.replicate dm.length (Fr.oneV y.person) ∧ OwnAt (rfK h 2 x 1 b.2.2 b.1) b.2.1 ((repV (Hd.weight) dn).length + dm.length) b.1) (own, X, repV (Hd.weight) dn) ?_ ?_ ⟨by simp, hown⟩ Ty.mixed (by kernel_rfl) ?_ ?_
    · simp (disch := omega) only [go_sem, seval, List.length_nil]
    · simp
    · rintro dm u r2 ⟨ow, Z, rows⟩ hdm ⟨hrw, hownZ⟩
      simp only at hrw hownZ ⊢
      subst hrw
      have hl2 := rep_unit hdm
      simp (disch := omega) only [go_sem, seval]
      refine aIf.pos (by omega) ?_
      simp (disch := omega) only [go_sem, seval, g2, e1, List.length_map]
      have hro : RowsOK 3 (repV (Hd.weight) dn ++ List.replicate dm.length (Fr.oneV y.person)) := rowsOK_one _ fun a ha => by
        rcases List.mem_append.1 ha with ha | ha
        · exact repV_mem ha
        · exact ⟨_, List.eq_of_mem_replicate ha⟩
      have hlr : (repV (Hd.weight) dn ++ List.replicate dm.length (Fr.oneV y.person)).length = (repV (Hd.weight) dn).length + dm.length := by rw [List.length_append, List.length_replicate]
      rw [show [AV.agg [.int .i64 y.person, .int .i64 0, .sl [] .full]] = [Fr.oneV y.person] from rfl]
      refine aAp_sl (by rw [hlr]; exact hownZ) hro (rowsOK_one _ fun a ha => ⟨y.person, by simpa using ha⟩) (by rw [hlr, List.length_singleton]; omega) (by rw [hlr, List.length_singleton]; omega) fun j' own' ho' hg => ?_
      simp (disch := omega) only [go_sem, seval, g2, s2]
      refine roundL_next (own', j', repV (Hd.weight) dn ++ List.replicate (dm.length + 1) (Fr.oneV y.person)) ⟨by rw [List.length_append]; rfl, ?_⟩ ?_ ?_
      · rw [hlr] at ho'
        rw [List.length_append, List.length_singleton]
        refine OwnAt.len (K := rfK h 2 x 1 (repV (Hd.weight) dn ++ List.replicate dm.length (Fr.oneV y.person)) ow) ?_ (by simp [rfK])
        simpa [Nat.add_assoc] using ho'
      · simp (disch := omega) only [go_sem, seval, List.length_append]
      · simp only [List.replicate_succ', List.append_assoc]
    · rintro ⟨ow, Z, rows⟩ ⟨hrw, hownZ⟩
      simp only at hrw hownZ ⊢
      subst hrw
      simp (disch := omega) only [go_sem, seval, List.length_replicate]
      refine AWP.keep [3, 6, 7, 8, 9] (aCode_ok Ty.mixed _ _ _ _ (by kernel_rfl) ?_)
      simp (disch := omega) only [go_sem, seval]
      refine roundL_next (ow, Z, repV (Hd.weight) dn ++ List.replicate n (Fr.oneV y.person)) ⟨hap.symm, ?_⟩ ?_ ?_
      · rw [hap, List.length_append, List.length_replicate]
        rw [List.length_replicate] at hownZ
        exact hownZ
      · simp (disch := omega) only [go_sem, seval, List.length_append]
      · first | rw [List.length_replicate] | rfl
  · rintro ⟨own, X, rows⟩ ⟨hrw, hown⟩
    simp only at hrw hown ⊢
    subst hrw
    simp (disch := omega) only [go_sem, seval, List.length_map]
    rw [rfK]
    refine AWP.keep [3, 6, 7] (aCode_ok Ty.mixed _ _ _ _ (by kernel_rfl) ?_)
    simp (disch := omega) only [go_sem, seval]
    rw [loose_rep]
    exact ⟨Fr.rb_Gs _ _ ▸ trivial, rfl⟩
set_option maxHeartbeats 1600000 in
set_option maxRecDepth 100000 in
theorem rf3_calls (Γ : Nat → Option (List AV)) (v : Int) (hs : List (List Hd)) (x : Ex) (h : AH) (hl : x.l.length ≤ 1000) (IH : ∀ y ∈ x.l, RForC Γ v hs y) :
    ACalls Tryz.prog Γ 24 [.agg [.int .i64 3, .int .i64 x.n, .int .i64 x.no, .str ⟨⟨x.name⟩⟩, .sl (x.l.map encX) .free], .int .i64 v, .sl (encHl hs) .free] h fun w h' => h' = h ∧ w = Fr.encG (.mk (-1) x.n (x.l.map (formG v hs))) := by
  refine ACalls.dropL ?_
  rw [Fr.encG_mk]
  refine acalls_code (rs := [.cell 6 34]) Tryz.func24 rfl rfl rfl rfl Ty.mixed (by kernel_rfl) ?_
  simp (disch := omega) only [go_sem, seval]
  have g0 : ∀ rows own X, (rfK h 3 x x.n rows own ++ X)[h.length]? = some (.row [.int .i64 3, .int .i64 x.n, .int .i64 x.no, .str ⟨⟨x.name⟩⟩, .sl (x.l.map encX) .free] 26) := fun rows own X => by simp [rfK]
  have g2 : ∀ rows own X, (rfK h 3 x x.n rows own ++ X)[h.length + 2]? = some (.row [.int .i64 (-1), .int .i64 x.n, .sl rows own] 34) := fun rows own X => by simp [rfK]
  have s2 : ∀ rows own X rows' own', (rfK h 3 x x.n rows own ++ X).set (h.length + 2) (.row [.int .i64 (-1), .int .i64 x.n, .sl rows' own'] 34) = rfK h 3 x x.n rows' own' ++ X := fun rows own X rows' own' => by simp [rfK]
  refine awp_loopL (β := Abs.Own × AH × List AV) x.l [1, 2, 3, 6, 12, 13] (fun dn b => [(1, .int .i64 v), (2, .sl (encHl hs) .free), (3, .ptr (some (h.length, 0))), (6, .ptr (some (h.length + 1, 0))), (12, .ptr (some (h.length + 2, 0))), (13, .int .i64 dn.length)]) (fun b => rfK h 3 x x.n b.2.2 b.1 ++ b.2.1) (fun dn _ b => b.2.2 = (dn.map fun y => Fr.encG (formG v hs y)) ∧ OwnAt (rfK h 3 x x.n b.2.2 b.1) b.2.1 dn.length b.1) (.full, [], []) ?_ (by simp [rfK]) ⟨rfl, trivial⟩ Ty.mixed (by kernel_rfl) ?_ ?_
  · simp (disch := omega) only [go_sem, seval, List.length_nil]
  · rintro dn y r ⟨own, X, rows⟩ hdn ⟨hrw, hown⟩
    simp only at hrw hown ⊢
    subst hrw
    have hlen : x.l.length = dn.length + 1 + r.length := by rw [hdn]; simp; omega
    have e1 : (x.l.map encX)[dn.length]? = some (encX y) := by rw [hdn]; exact rowMid ..
    have c4 := IH y (by rw [hdn]; simp)
    rw [RForC, encX_eq] at c4
    rw [encX_eq] at e1
    simp (disch := omega) only [go_sem, seval, List.length_map, g0]
    refine aIf.pos (by omega) ?_
    simp (disch := omega) only [go_sem, seval, e1, g0, g2, List.length_map]
    refine aCallF.intro (fun _ => c4 _) ?_
    simp (disch := omega) only [go_sem, seval, g0, g2]
    refine aAp_sl (by rw [List.length_map]; exact hown) (rows_form v hs _) (rows_form v hs [y]) (by simp; omega) (by simp; omega) fun j' own' ho' hg => ?_
    simp (disch := omega) only [go_sem, seval, g0, g2, s2]
    refine roundL_next (own', j', (dn ++ [y]).map fun y => Fr.encG (formG v hs y)) ⟨rfl, ?_⟩ ?_ ?_
    · refine OwnAt.len (K := rfK h 3 x x.n (dn.map fun y => Fr.encG (formG v hs y)) own) ?_ (by simp [rfK])
      simpa using ho'
    · simp (disch := omega) only [go_sem, seval, List.length_append]
    · rw [List.map_append]; rfl
  · rintro ⟨own, X, rows⟩ ⟨hrw, hown⟩
    simp only at hrw hown ⊢
    subst hrw
    simp (disch := omega) only [go_sem, seval, List.length_map, g0]
    rw [rfK]
    refine AWP.keep [6, 12] (aCode_ok Ty.mixed _ _ _ _ (by kernel_rfl) ?_)
    simp (disch := omega) only [go_sem, seval]
    rw [show x.l.map (fun y => Fr.encG (formG v hs y)) = (x.l.map (formG v hs)).map Fr.encG from by rw [List.map_map]; rfl, Fr.loose_Gs]
    exact ⟨Fr.rb_Gs _ _ ▸ trivial, rfl⟩
set_option maxRecDepth 100000 in
theorem rf4_calls (Γ : Nat → Option (List AV)) (v : Int) (hs : List (List Hd)) (x : Ex) (h : AH) (hl : x.l.length = 2) (IH : ∀ y ∈ x.l, RForC Γ v hs y) :
    ACalls Tryz.prog Γ 24 [.agg [.int .i64 4, .int .i64 x.n, .int .i64 x.no, .str ⟨⟨x.name⟩⟩, .sl (x.l.map encX) .free], .int .i64 v, .sl (encHl hs) .free] h fun w h' => h' = h ∧ w = Fr.encG ((x.l.map (formG v hs)).getD (if v ≤ x.n then 0 else 1) zeroG) := by
  obtain ⟨a, b, hab⟩ : ∃ a b, x.l = [a, b] := by
    match hx : x.l with
    | [] => rw [hx] at hl; cases hl
    | [_] => rw [hx] at hl; cases hl
    | [a, b] => exact ⟨a, b, rfl⟩
    | _ :: _ :: _ :: _ => rw [hx] at hl; simp at hl
  refine ACalls.drop ?_
  have ia := IH a (by rw [hab]; simp)
  have ib := IH b (by rw [hab]; simp)
  rw [RForC] at ia ib
  have ga : ∃ p n l, formG v hs a = .mk p n l := by cases formG v hs a with | mk p n l => exact ⟨p, n, l, rfl⟩
  have gb : ∃ p n l, formG v hs b = .mk p n l := by cases formG v hs b with | mk p n l => exact ⟨p, n, l, rfl⟩
  rw [hab, List.map_cons, List.map_cons, List.map_nil, List.map_cons, List.map_cons, List.map_nil]
  obtain ⟨ap, an, al, ga⟩ := ga
  obtain ⟨bp, bn, bl, gb⟩ := gb
  rw [ga, gb]
  rw [ga, Fr.encG_mk] at ia
  rw [gb, Fr.encG_mk] at ib
  rw [encX_eq] at ia ib
  rw [encX_eq a, encX_eq b]
  refine acalls_code (rs := [.cell 6 34]) Tryz.func24 rfl rfl rfl rfl Ty.mixed (by kernel_rfl) ?_
  simp (disch := omega) only [go_sem, seval]
  refine AWP.keep [1, 2, 3, 6] (aCode_ok Ty.mixed _ _ _ _ (by kernel_rfl) ?_)
  simp (disch := omega) only [go_sem, seval]
  refine aIf.intro (fun h1 => ?_) (fun h1 => ?_) <;> simp (disch := omega) only [go_sem, seval]
  · refine ACalls.det (ia _) ?_
    simp (disch := omega) only [go_sem, seval]
    rw [if_pos h1]
    exact (Fr.encG_mk ..).symm
  · refine ACalls.det (ib _) ?_
    simp (disch := omega) only [go_sem, seval]
    rw [if_neg h1]
    exact (Fr.encG_mk ..).symm
theorem rform_calls_k (Γ : Nat → Option (List AV)) (v : Int) (hs : List (List Hd)) (H : HdOK hs []) (o : List Tx) (u : Bool) (ho : o.length = hs.length) (hl10 : ∀ l ∈ hs, l.length ≤ 100) : ∀ (m : Nat) (x : Ex), SizeOf.sizeOf x < m → okX o u x = true → RForC Γ v hs x
  | 0, _, hk, _ => absurd hk (Nat.not_lt_zero _)
  | m + 1, x, hsz, hok => by
    have IH : ∀ y ∈ x.l, RForC Γ v hs y := fun y hy => rform_calls_k Γ v hs H o u ho hl10 m y (by cases x; exact memX_sz hy hsz) (okX_sub hok hy)
    have htop := okX_top hok
    have hk := okF_kind htop
    intro h
    have hd := formG_eq v hs x
    have hno : x.k = 1 ∨ x.k = 2 → 0 ≤ x.no ∧ x.no < hs.length := fun e => by have := okF_named htop e; omega
    have hrow : ∀ e : x.k = 1 ∨ x.k = 2, (rowH hs x.no).length ≤ 100 := fun e => hl10 _ (rowH_mem (hno e))
    rw [encX_eq]
    obtain e | e | e | e : x.k = 1 ∨ x.k = 2 ∨ x.k = 3 ∨ x.k = 4 := by omega
    · rw [hd, if_pos e, e]
      exact rf1_calls Γ v hs x h (hno (.inl e)) (hrow (.inl e)) (fun _ _ => (by decide : (0 : Int) ≤ 1 ∧ (1 : Int) ≤ 64))
    · rw [hd, if_neg (by omega), if_pos e, e]
      exact rf2_calls Γ v hs x h (hno (.inr e)) (hrow (.inr e)) (fun y hy => by have := H.wt _ (rowH_mem (hno (.inr e))) y hy; omega)
    · rw [hd, if_neg (by omega), if_neg (by omega), if_pos e, e]
      exact rf3_calls Γ v hs x h (by have := okF_of htop e; omega) IH
    · rw [hd, if_neg (show ¬ x.k = 1 by omega), if_neg (show ¬ x.k = 2 by omega), if_neg (show ¬ x.k = 3 by omega), e]
      exact rf4_calls Γ v hs x h (okF_upto htop e).1 IH
theorem rform_calls (Γ : Nat → Option (List AV)) (v : Int) (hs : List (List Hd)) (H : HdOK hs []) (o : List Tx) (u : Bool) (ho : o.length = hs.length) (hl10 : ∀ l ∈ hs, l.length ≤ 100) (x : Ex) (hx : okX o u x = true) : RForC Γ v hs x :=
  rform_calls_k Γ v hs H o u ho hl10 _ x (Nat.lt_succ_self _) hx
end Go.Proofs.YtplllkjobpjaoaaGreatDoor

/- The reference's Compile, Change; FormulasCompileSpec. No conditions. -/
set_option linter.unusedSimpArgs false
set_option linter.unusedVariables false
namespace Go.Proofs.YtplllkjobpjaoaaGreatDoor
open Go Go.Proofs Go.Abs

/-- The expression of the last rule of a kind. -/
def lstX (k : Int) : List Rl → Ex → Ex
  | [], x => x
  | r :: l, x => lstX k l (if r.kno = k then r.x else x)
theorem lstX_high {o : List Tx} {k : Int} : ∀ (l : List Rl) (i : Nat) (z : Ex), resdRs o i l = true → k < i → lstX k l z = z
  | [], _, _, _, _ => rfl
  | r :: l, i, z, h, hk => by
    rw [resdRs, Bool.and_eq_true, Bool.and_eq_true, beq_iff_eq] at h
    rw [lstX, h.1.1, if_neg (by omega)]
    exact lstX_high l (i + 1) z h.2 (by omega)
theorem lstX_res {o : List Tx} {k : Int} : ∀ (l : List Rl) (i : Nat) (z : Ex) (r : Rl), resdRs o i l = true → (i : Int) ≤ k → l[(k - i).toNat]? = some r → lstX k l z = r.x
  | [], i, z, r, _, _, h => by simp at h
  | a :: l, i, z, r, h, h1, h2 => by
    rw [resdRs, Bool.and_eq_true, Bool.and_eq_true, beq_iff_eq] at h
    rw [lstX, h.1.1]
    by_cases e : (i : Int) = k
    · rw [if_pos e]
      rw [show (k - i).toNat = 0 by omega, List.getElem?_cons_zero, Option.some.injEq] at h2
      subst h2
      exact lstX_high l (i + 1) _ h.2 (by omega)
    · rw [if_neg e]
      rw [show (k - i).toNat = (k - ((i + 1 : Nat) : Int)).toNat + 1 by omega, List.getElem?_cons_succ] at h2
      exact lstX_res l (i + 1) z r h.2 (by omega) h2
def zX : Ex := .mk 0 0 0 [] []
def getX : Option Rl → Ex
  | none => zX
  | some r => r.x
def oX : Option Rl → Int × Int × Int × Tx × AV
  | none => (0, 0, 0, [], .sl [] .full)
  | some r => (r.x.k, r.x.n, r.x.no, r.x.name, .sl (r.x.l.map encX) .free)
def rcK (h : AH) (p : Pol) (k n no : Int) (name : Tx) (l : AV) : AH := h ++ [.row [.str ⟨⟨p.name⟩⟩, .sl (encT p.kinds) .free, .sl (encT p.offices) .free, .sl (p.rules.map encRl) .free, .int .i64 p.change.k, .int .i64 p.change.n, .int .i64 p.change.no, .str ⟨⟨p.change.name⟩⟩, .sl (p.change.l.map encX) .free, .int .i64 p.mode] 28, .row [.int .i64 0, .int .i64 0, .sl [] .full] 34, .row [.int .i64 k, .int .i64 n, .int .i64 no, .str ⟨⟨name⟩⟩, l] 26]
set_option maxHeartbeats 1600000 in
set_option maxRecDepth 100000 in
theorem rchange_calls (Γ : Nat → Option (List AV)) (p : Pol) (hs : List (List Hd)) (h : AH) (F : FewC p hs) :
    ACalls Tryz.prog Γ 9 [encPol p, .sl (encHl hs) .free] h fun v h' => h' = h ∧ v = .tuple [Fr.encG (chngF p hs).1, .int .i64 (chngF p hs).2] := by
  have c1 := fun h => rchanges_calls Γ p hs [] h F.sh (F.szs (by simp))
  have hd : chngF p hs = if (changeF p hs []).2 ≠ 0 then (zeroG, (changeF p hs []).2) else chkG (formG 0 hs p.change) := rfl
  have h0 := change0 (p := p) (hs := hs) (who := [])
  obtain ⟨⟨r1, r2⟩, hr⟩ : ∃ r, changeF p hs [] = r := ⟨_, rfl⟩
  rw [hr] at c1 hd h0
  rw [encB2] at c1
  refine ACalls.dropL ?_
  rw [encPol_eq] at *
  refine acalls_code (rs := [.cell 4 34, .tmp 5]) Tryz.func9 rfl rfl rfl rfl Ty.mixed (by kernel_rfl) ?_
  simp (disch := omega) only [go_sem, seval]
  refine ACalls.ofLoose (ACalls.det (c1 _) ?_) (by simp only [looseL, loose, loose_T, loose_Rs, loose_Xs, loose_I, loose_HH]; rfl)
  simp (disch := omega) only [go_sem, seval]
  refine aIf.intro (fun h1 => ?_) (fun h1 => ?_) <;> simp (disch := omega) only [go_sem, seval]
  rotate_left
  · rw [hd, if_pos h1, zeroG, Fr.encG_mk]
    simp only [looseL, loose, List.map_nil]
  rw [if_neg (by simpa using h1)] at hd
  obtain ⟨k1, k2, k3⟩ := h0 h1
  obtain ⟨H, hn⟩ := hd_ok k2 k3
  have hx := (check_change k1).1
  have c2 := rform_calls Γ 0 hs H p.offices false (by omega) F.l p.change hx
  have hsh : Fr.Sh (formG 0 hs p.change) := sh_form k2 hx
  have c3 := fun h => rchecked_calls Γ _ h hsh
  rw [← hd] at c3
  generalize chngF p hs = r at c3
  obtain ⟨⟨gp, gn, gl⟩, e⟩ := r
  rw [RForC, encX_eq] at c2
  obtain ⟨fp, fn, fl, hf⟩ : ∃ a n l, formG 0 hs p.change = .mk a n l := by cases formG 0 hs p.change with | mk a n l => exact ⟨a, n, l, rfl⟩
  rw [hf, Fr.encG_mk] at c2 c3
  rw [Fr.encG_mk] at c3 ⊢
  refine ACalls.det (c2 _) ?_
  simp (disch := omega) only [go_sem, seval]
  refine ACalls.det (c3 _) ?_
  simp (disch := omega) only [go_sem, seval]
set_option maxHeartbeats 1600000 in
set_option maxRecDepth 100000 in
theorem rcompile_calls (Γ : Nat → Option (List AV)) (p : Pol) (kind value : Int) (hs : List (List Hd)) (h : AH) (F : FewC p hs) :
    ACalls Tryz.prog Γ 7 [encPol p, .int .i64 kind, .int .i64 value, .sl (encHl hs) .free] h fun v h' => h' = h ∧ v = .tuple [Fr.encG (compF p kind value hs).1, .int .i64 (compF p kind value hs).2] := by
  have c1 := fun h => rpermits_calls Γ p kind value hs [] h F.sh (F.szs (by simp))
  have hd : compF p kind value hs = if (permF p kind value hs []).2 ≠ 0 then (zeroG, (permF p kind value hs []).2) else chkG (((p.rules[kind.toNat]?).map fun r => formG value hs r.x).getD zeroG) := rfl
  have h0 := perm0 (p := p) (kind := kind) (value := value) (hs := hs) (who := [])
  obtain ⟨⟨r1, r2⟩, hr⟩ : ∃ r, permF p kind value hs [] = r := ⟨_, rfl⟩
  rw [hr] at c1 hd h0
  rw [encB2] at c1
  refine ACalls.dropL ?_
  rw [encPol_eq] at *
  refine acalls_code (rs := [.cell 8 34, .tmp 9]) Tryz.func7 rfl rfl rfl rfl Ty.mixed (by kernel_rfl) ?_
  simp (disch := omega) only [go_sem, seval]
  refine ACalls.ofLoose (ACalls.det (c1 _) ?_) (by simp only [looseL, loose, loose_T, loose_Rs, loose_Xs, loose_I, loose_HH]; rfl)
  simp (disch := omega) only [go_sem, seval]
  refine aIf.intro (fun h1 => ?_) (fun h1 => ?_) <;> simp (disch := omega) only [go_sem, seval]
  rotate_left
  · rw [hd, if_pos h1, zeroG, Fr.encG_mk]
    simp only [looseL, loose, List.map_nil]
  rw [if_neg (by simpa using h1)] at hd
  obtain ⟨k1, kk, kv, k2, k3⟩ := h0 h1
  obtain ⟨H, hn⟩ := hd_ok k2 k3
  obtain ⟨r, hr, e1, hrm⟩ := rule_at k1 kk
  have hx := (check_rule k1 hrm).1
  have hlen := check_lens k1
  have c2 := rform_calls Γ value hs H p.offices true (by omega) F.l r.x hx
  have hsh : Fr.Sh (formG value hs r.x) := sh_form k2 hx
  have c3 := fun h => rchecked_calls Γ _ h hsh
  rw [hr] at hd
  have hd2 : compF p kind value hs = chkG (formG value hs r.x) := hd
  rw [← hd2] at c3
  generalize compF p kind value hs = q at c3
  obtain ⟨⟨gp, gn, gl⟩, e⟩ := q
  rw [RForC, encX_eq] at c2
  obtain ⟨fp, fn, fl, hf⟩ : ∃ p n l, formG value hs r.x = .mk p n l := by cases formG value hs r.x with | mk p n l => exact ⟨p, n, l, rfl⟩
  rw [hf, Fr.encG_mk] at c2 c3
  rw [Fr.encG_mk] at c3 ⊢
  have hlx : lstX kind p.rules zX = r.x := lstX_res (o := p.offices) p.rules 0 zX r (check_ok k1).2.2.2.1 kk.1 (by simpa using hr)
  have hrl := F.rl
  have g0 : ∀ a b c d e X, (rcK h p a b c d e ++ X)[h.length]? = some (.row [.str ⟨⟨p.name⟩⟩, .sl (encT p.kinds) .free, .sl (encT p.offices) .free, .sl (p.rules.map encRl) .free, .int .i64 p.change.k, .int .i64 p.change.n, .int .i64 p.change.no, .str ⟨⟨p.change.name⟩⟩, .sl (p.change.l.map encX) .free, .int .i64 p.mode] 28) := fun a b c d e X => by simp [rcK]
  refine awp_loopL (β := Int × Int × Int × Tx × AV) p.rules [1, 2, 3, 4, 8, 12, 13] (fun don _ => [(1, .int .i64 kind), (2, .int .i64 value), (3, .sl (encHl hs) .free), (4, .ptr (some (h.length, 0))), (8, .ptr (some (h.length + 1, 0))), (12, .ptr (some (h.length + 2, 0))), (13, .int .i64 don.length)]) (fun b => rcK h p b.1 b.2.1 b.2.2.1 b.2.2.2.1 b.2.2.2.2) (fun don rest b => ∃ o, b = oX o ∧ lstX kind rest (getX o) = r.x) (0, 0, 0, [], .sl [] .full) ?_ ?_ ⟨none, rfl, hlx⟩ Ty.mixed (by kernel_rfl) ?_ ?_
  · simp (disch := omega) only [go_sem, seval, List.length_nil]
  · rfl
  · rintro don y rest ⟨a1, a2, a3, a4, a5⟩ hdn ⟨o, ho, hq⟩
    simp only at ho ⊢
    have hlen2 : p.rules.length = don.length + 1 + rest.length := by rw [hdn]; simp; omega
    have e2 : (p.rules.map encRl)[don.length]? = some (encRl y) := by rw [hdn]; exact rowMid ..
    rw [encRl_eq] at e2
    rw [lstX] at hq
    simp (disch := omega) only [go_sem, seval, rcK, List.length_map]
    refine aIf.pos (by omega) ?_
    simp (disch := omega) only [go_sem, seval, e2, List.length_map]
    refine aIf.intro (fun h2 => ?_) (fun h2 => ?_) <;> simp (disch := omega) only [go_sem, seval, e2, List.length_map]
    · refine roundL_next (y.x.k, y.x.n, y.x.no, y.x.name, .sl (y.x.l.map encX) .free) ⟨some y, rfl, by rw [if_pos h2] at hq; exact hq⟩ ?_ rfl
      simp (disch := omega) only [go_sem, seval, List.length_append]
    · refine roundL_next (a1, a2, a3, a4, a5) ⟨o, ho, by rw [if_neg h2] at hq; exact hq⟩ ?_ rfl
      simp (disch := omega) only [go_sem, seval, List.length_append]
  · rintro ⟨a1, a2, a3, a4, a5⟩ ⟨o, ho, hq⟩
    rw [lstX] at hq
    cases o with
    | none =>
      exfalso
      have := okF_kind (okX_top hx)
      rw [← hq] at this
      simp [getX, zX, Ex.k] at this
    | some q =>
      have hq2 : q.x = r.x := hq
      rw [oX, hq2] at ho
      obtain ⟨rfl, rfl, rfl, rfl, rfl⟩ : a1 = r.x.k ∧ a2 = r.x.n ∧ a3 = r.x.no ∧ a4 = r.x.name ∧ a5 = .sl (r.x.l.map encX) .free := by simpa using ho
      simp (disch := omega) only [go_sem, seval, rcK, List.length_map]
      refine AWP.keep [2, 3, 4, 8, 12] (aCode_ok Ty.mixed _ _ _ _ (by kernel_rfl) ?_)
      simp (disch := omega) only [go_sem, seval]
      refine ACalls.det (c2 _) ?_
      simp (disch := omega) only [go_sem, seval]
      refine ACalls.det (c3 _) ?_
      simp (disch := omega) only [go_sem, seval]
theorem chk_sh {g : Fr.Gt} (h : Fr.Sh g) : Fr.Sh (chkG g).1 := by
  rw [chkG]; split
  · exact h
  · exact sh_zeroG
theorem comp_sh (p : Pol) (kind value : Int) (hs : List (List Hd)) : Fr.Sh (compF p kind value hs).1 := by
  by_cases h : (permF p kind value hs []).2 = 0
  · obtain ⟨k1, kk, kv, k2, k3⟩ := perm0 h
    obtain ⟨r, hr, _, hrm⟩ := rule_at k1 kk
    rw [compF, if_neg (by simpa using h), hr]
    exact chk_sh (sh_form k2 (check_rule k1 hrm).1)
  · rw [compF, if_pos h]; exact sh_zeroG
theorem chng_sh (p : Pol) (hs : List (List Hd)) : Fr.Sh (chngF p hs).1 := by
  by_cases h : (changeF p hs []).2 = 0
  · obtain ⟨k1, k2, k3⟩ := change0 h
    rw [chngF, if_neg (by simpa using h)]
    exact chk_sh (sh_form k2 (check_change k1).1)
  · rw [chngF, if_pos h]; exact sh_zeroG
set_option maxHeartbeats 1600000 in
set_option maxRecDepth 100000 in
theorem formulasCompileSpec_calls (Γ : Nat → Option (List AV)) (hΓ : Γ 0 = some kindsC) (p : Pol) (kind value : Int) (hs : List (List Hd)) (h : AH) (hp : ShP p) (H : ShH hs) :
    ACalls Tryz.prog Γ 3 [encPol p, .int .i64 kind, .int .i64 value, .sl (encHl hs) .free] h fun v h' => h' = h ∧ v = .bool true := by
  have c1 := fun h => fewp_calls Γ p hs h hp H.n H.l
  have c2 := fun h F => compile_calls Γ hΓ p kind value hs h F
  have c3 := fun h F => rcompile_calls Γ p kind value hs h F
  have c4 := fun h F => change_calls Γ hΓ p hs h F
  have c5 := fun h F => rchange_calls Γ p hs h F
  have s1 := comp_sh p kind value hs
  have s2 := chng_sh p hs
  generalize compF p kind value hs = g at c2 c3 s1
  generalize chngF p hs = k at c4 c5 s2
  have c6 := fun h => gsame_calls Γ g.1 h s1
  have c7 := fun h => gsame_calls Γ k.1 h s2
  obtain ⟨⟨gp, gn, gl⟩, g2⟩ := g
  obtain ⟨⟨kp, kn, kl⟩, k2⟩ := k
  simp only [Fr.encG_mk] at c2 c3 c4 c5 c6 c7
  refine ACalls.drop ?_
  rw [encPol_eq] at *
  refine acalls_code (rs := [.tmp 8]) Tryz.func3 rfl rfl rfl rfl Ty.mixed (by kernel_rfl) ?_
  simp (disch := omega) only [go_sem, seval]
  refine ACalls.det (Fr.sane_calls Γ _) ?_
  simp (disch := omega) only [go_sem, seval]
  refine ACalls.det (c1 _) ?_
  cases h1 : fewPF p hs <;> simp (disch := omega) only [go_sem, seval]
  have F := fewPF_C hp h1
  refine ACalls.det (c2 _ F) ?_
  simp (disch := omega) only [go_sem, seval]
  refine ACalls.det (c3 _ F) ?_
  simp (disch := omega) only [go_sem, seval]
  refine ACalls.det (c4 _ F) ?_
  simp (disch := omega) only [go_sem, seval]
  refine ACalls.det (c5 _ F) ?_
  simp (disch := omega) only [go_sem, seval]
  refine ACalls.det (c6 _) ?_
  simp (disch := omega) only [go_sem, seval]
  refine ACalls.det (c7 _) ?_
  simp (disch := omega) only [go_sem, seval]
end Go.Proofs.YtplllkjobpjaoaaGreatDoor
