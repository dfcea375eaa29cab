/- Texts joined: CmpI, CmpJ. No conditions. -/
import Derived.Test.YtelehpccfaedjaaMrBE
import Derived.Test.YtelehpccfaedjaaMrBF
import Derived.Test.YtelehpccfaedjaaMrBC
import Derived.Test.YtelehpccfaedjaaMrS
/- The law's own examples. No conditions. -/
set_option linter.unusedSimpArgs false
set_option linter.unusedVariables false
namespace Go.Proofs.Ytelehpccfaedjaa
open Go Go.Proofs Go.Abs

set_option maxRecDepth 100000 in
theorem leaf25_calls (Γ : Nat → Option (List AV)) (x : Int) (h : AH) :
    ACalls Try.prog Γ 58 [.int .i64 x] h fun v h' => h' = h ∧ v = encG (lf x) := by
  refine ACalls.dropL ?_
  refine acalls_code (rs := [.cell 2 54]) Try.func58 rfl rfl rfl rfl Ty.mixed (by kernel_rfl) ?_
  simp (disch := omega) only [go_sem, seval]
  rw [lf, encG_mk]
  rfl
def lfE (x : Int) : AV := encG (lf x)
set_option maxRecDepth 100000 in
theorem of25_calls (Γ : Nat → Option (List AV)) (n : Int) (l : List Int) (h : AH) (hl : l.length ≤ 1000000) :
    ACalls Try.prog Γ 59 [.int .i64 n, .sl (encI l) .free] h fun v h' => h' = h ∧ v = encG (ofG n l) := by
  refine ACalls.dropL ?_
  refine acalls_code (rs := [.cell 4 54]) Try.func59 rfl rfl rfl rfl Ty.mixed (by kernel_rfl) ?_
  simp (disch := omega) only [go_sem, seval, encI_len]
  obtain ⟨K, hK⟩ : ∃ K : AV → AH, ∀ v, K v = h ++ [.row [.int .i64 0, .int .i64 0, .sl [] .full] 54, .row [.int .i64 (-1), .int .i64 n, v] 54] := ⟨_, fun _ => rfl⟩
  have Kl : ∀ v, (K v).length = h.length + 2 := fun v => by rw [hK]; simp
  have K1 : ∀ v j, (K v ++ j)[h.length + 1]? = some (.row [.int .i64 (-1), .int .i64 n, v] 54) := fun v j => by rw [hK]; simp
  have K0 : ∀ v j, (K v ++ j)[h.length]? = some (.row [.int .i64 0, .int .i64 0, .sl [] .full] 54) := fun v j => by rw [hK]; simp
  have S1 : ∀ v j v', (K v ++ j).set (h.length + 1) (.row [.int .i64 (-1), .int .i64 n, v'] 54) = K v' ++ j := fun v j v' => by rw [hK, hK]; simp
  have S0 : ∀ v j r, ∃ l, (K v ++ j).set h.length r = h ++ l := fun v j r => by
    rw [hK, List.append_assoc]
    exact ⟨r :: .row [.int .i64 (-1), .int .i64 n, v] 54 :: j, by rw [show h.length = h.length + 0 from rfl, hset_add]; rfl⟩
  have G0 : ∀ v j r, ((K v ++ j).set h.length r)[h.length]? = some r := fun v j r => by rw [List.getElem?_set_self]; simp [Kl]; omega
  refine awp_loopL (β := FrS) l [4, 5, 10, 11, 12] (fun don _ => [(4, .ptr (some (h.length, 0))), (5, .ptr (some (h.length + 1, 0))), (10, .sl (encI l) .free), (11, .int .i64 l.length), (12, .int .i64 don.length)])
    (fun s => K (.sl (s.don.map lfE) s.own) ++ s.j) (fun don _ s => s.don = don ∧ OwnAt (K (.sl (s.don.map lfE) s.own)) s.j s.don.length s.own) ⟨[], .full, []⟩ ?_ (by simp [hK]) ⟨rfl, trivial⟩ Ty.mixed (by kernel_rfl) ?_ ?_
  · simp (disch := omega) only [go_sem, seval]
  · rintro don x r ⟨_, own, j⟩ hd ⟨rfl, ho⟩
    simp only at ho ⊢
    rename_i don
    have hlen : l.length = don.length + (r.length + 1) := by rw [hd]; simp
    have e1 : (encI l)[don.length]? = some (.int .i64 x) := by rw [hd]; simp [encI]
    simp (disch := omega) only [go_sem, seval]
    rw [hlen]
    refine aIf.pos (by omega) ?_
    simp (disch := omega) only [go_sem, seval, e1, K1]
    refine aCallF.intro (fun _ => leaf25_calls Γ x _) ?_
    simp (disch := omega) only [go_sem, seval, e1, K1]
    have hlen2 : don.length + 1 ≤ 1000000 := by omega
    refine aAp_sl (xs := [lfE x]) (by rw [List.length_map]; exact ho) (RowsOK.map (f := lfE) (fun x => ⟨rfl, fun c hc => by simp [lfE, lf, encG_mk, AV.cells] at hc; rcases hc with rfl | rfl | rfl <;> rfl⟩) _) (RowsOK.map (f := lfE) (fun x => ⟨rfl, fun c hc => by simp [lfE, lf, encG_mk, AV.cells] at hc; rcases hc with rfl | rfl | rfl <;> rfl⟩) [x]) (by simp; omega) (by simp; omega) fun j3 own3 ho3 hg => ?_
    simp (disch := omega) only [go_sem, seval, K1, S1]
    refine roundL_next ⟨don ++ [x], own3, j3⟩ ⟨rfl, ?_⟩ ?_ ?_
    · simp only
      rw [List.length_map] at ho3
      cases own3 with
      | full => trivial
      | free => exact ho3.elim
      | arena q => obtain ⟨i', h1, h2⟩ := ho3; exact ⟨i', by rw [h1, Kl, Kl], by simpa using h2⟩
    · simp (disch := omega) only [go_sem, seval, List.length_append]
    · simp
  · rintro ⟨_, own, j⟩ ⟨rfl, ho⟩
    simp only at ho ⊢
    simp (disch := omega) only [go_sem, seval]
    refine AWP.keep [4, 5] (aCode_ok Ty.mixed _ _ _ _ (by kernel_rfl) ?_)
    rename_i dn
    simp (disch := omega) only [go_sem, seval, K1, K0, G0]
    have e : looseL (List.map lfE dn) = dn.map fun x => encG (lf x) := by
      rw [looseL_map, List.map_map]
      refine List.map_congr_left fun x _ => ?_
      simp [lfE, lf, encG_mk, loose, looseL]
    simp only [e, ofG, encG_mk, List.map_map]
    refine ⟨S0 _ _ _, ?_, rfl⟩
    have := of_eq_true (rb_Gs h.length (dn.map lf))
    rwa [List.map_map] at this
/-- What the examples say. -/
theorem exM1 : moreR (lf 1) (lf 2) = ([2], true, 0) := by decide +kernel
theorem exL1 : lessR (lf 1) (lf 1) = ([0], true, 0) := by decide +kernel
theorem exL2 : lessR (lf 1) (ofG 1 []) = ([], true, 0) := by decide +kernel
theorem exA1 : accC (lf 1) (lf 2) [] [] = (false, 0) := by decide +kernel
theorem exM2 : moreR (ofG 0 [1]) (lf 1) = ([], false, 220) := by decide +kernel
theorem exM3 : moreR (ofG 2 [1, 2]) (ofG 2 [1, 2, 3]) = ([1, 3], true, 0) := by decide +kernel
theorem exM4 : moreR (ofG 2 [1, 2, 3]) (ofG 2 [1, 2]) = ([], false, 0) := by decide +kernel
theorem exL3 : lessR (ofG 1 [3, 2]) (ofG 2 [1, 2, 3]) = ([0, 1, 0], true, 0) := by decide +kernel
theorem exL4 : lessR (ofG 2 [1, 2]) (ofG 2 [1, 2, 3]) = ([], false, 0) := by decide +kernel
theorem exA2 : accC (ofG 1 [3, 2]) (ofG 2 [1, 2, 3]) [[3], [2]] [1, 0, 0] = (true, 0) := by decide +kernel
theorem exA3 : accC (ofG 1 [3, 2]) (ofG 2 [1, 2, 3]) [[3], [1]] [1, 0, 0] = (false, 0) := by decide +kernel
theorem exA4 : accC (lf 1) (lf 1) (List.replicate 257 []) [] = (false, 2) := by decide +kernel
end Go.Proofs.Ytelehpccfaedjaa

/- The law's own examples, called. No conditions. -/
set_option linter.unusedSimpArgs false
set_option linter.unusedVariables false
namespace Go.Proofs.Ytelehpccfaedjaa
open Go Go.Proofs Go.Abs

theorem ACalls.ofFreeze {P : Program} {Γ : Nat → Option (List AV)} {f : FuncId} {args : List AV} {h h3 : AH} {R : AV → AH → Prop} {i : Nat} {cs : List AV} {T : TypeId} (hi : h[i]? = some (.row cs T)) (hf : Froze i cs h h3) (H : ACalls P Γ f (args.map (fzV i cs)) h3 R) : ACalls P Γ f args h R :=
  ⟨H.1, fun G w vs hI hv => by
    obtain ⟨b, vals, q1, q2, q3⟩ := hI.freeze hi hf
    refine (H.2 _ w vs q2 ⟨by simpa using hv.1, fun j c e => ?_⟩).mono fun _ _ => Res.mono (fun _ _ h => h) q1
    rw [List.getElem?_map] at e
    obtain ⟨c0, h0, rfl⟩ := Option.map_eq_some_iff.1 e
    exact q3 _ _ (hv.2 j c0 h0)⟩
set_option maxHeartbeats 3200000 in
set_option maxRecDepth 100000 in
theorem sane25_calls (Γ : Nat → Option (List AV)) (h : AH) :
    ACalls Try.prog Γ 27 [] h fun v h' => h' = h ∧ v = .bool true := by
  have s1 : Sh (lf 1) := sh_lf _ (by decide) (by decide)
  have s2 : Sh (lf 2) := sh_lf _ (by decide) (by decide)
  have s3 : Sh (ofG 1 []) := sh_of _ _ (by decide) (by decide) (by decide)
  have s4 : Sh (ofG 0 [1]) := sh_of _ _ (by decide) (by decide) (by decide)
  have s5 : Sh (ofG 2 [1, 2]) := sh_of _ _ (by decide) (by decide) (by decide)
  have s6 : Sh (ofG 2 [1, 2, 3]) := sh_of _ _ (by decide) (by decide) (by decide)
  have s7 : Sh (ofG 1 [3, 2]) := sh_of _ _ (by decide) (by decide) (by decide)
  have m1 := fun h => more_calls Γ _ _ h s1 s2
  have l1 := fun h => pless_calls Γ _ _ h s1 s1
  have l2 := fun h => pless_calls Γ _ _ h s1 s3
  have a1 := fun h => accepts_calls Γ _ _ [] [] h s1 s2 (by decide) (by decide) (by decide)
  have m2 := fun h => more_calls Γ _ _ h s4 s1
  have m3 := fun h => more_calls Γ _ _ h s5 s6
  have m4 := fun h => more_calls Γ _ _ h s6 s5
  have l3 := fun h => pless_calls Γ _ _ h s7 s6
  have l4 := fun h => pless_calls Γ _ _ h s5 s6
  have a2 := fun h => accepts_calls Γ _ _ [[3], [2]] [1, 0, 0] h s7 s6 (by decide) (by decide) (by decide)
  have a3 := fun h => accepts_calls Γ _ _ [[3], [1]] [1, 0, 0] h s7 s6 (by decide) (by decide) (by decide)
  have a4 := fun h => accepts_calls Γ _ _ (List.replicate 257 []) [] h s1 s1 (by rw [List.length_replicate]; decide) (fun a ha => by rw [List.mem_replicate] at ha; rw [ha.2]; decide) (by decide)
  rw [exM1] at m1
  rw [exL1] at l1
  rw [exL2] at l2
  rw [exA1] at a1
  rw [exM2] at m2
  rw [exM3] at m3
  rw [exM4] at m4
  rw [exL3] at l3
  rw [exL4] at l4
  rw [exA2] at a2
  rw [exA3] at a3
  rw [exA4] at a4
  rw [encM] at m1 m2 m3 m4
  rw [encL] at l1 l2 l3 l4
  rw [encAc] at a1 a2 a3 a4
  refine ACalls.drop ?_
  refine acalls_of_awp (rs := [.tmp 0]) Try.func27 rfl rfl rfl rfl ?_
  refine awp_seq (aCode_ok Ty.mixed _ _ _ _ (by kernel_rfl) ?_)
  simp (disch := omega) only [go_sem, seval]
  refine awp_seq (aCode_ok Ty.mixed _ _ _ _ (by kernel_rfl) ?_)
  simp (disch := omega) only [go_sem, seval]
  refine ACalls.det (leaf25_calls Γ 1 _) ?_
  simp (disch := omega) only [go_sem, seval]
  refine ACalls.det (leaf25_calls Γ 2 _) ?_
  simp (disch := omega) only [go_sem, seval]
  refine ACalls.det (m1 _) ?_
  simp (disch := omega) only [go_sem, seval]
  refine awp_seq (aCode_ok Ty.mixed _ _ _ _ (by kernel_rfl) ?_)
  simp (disch := omega) only [go_sem, seval]
  refine ACalls.det (leaf25_calls Γ 1 _) ?_
  simp (disch := omega) only [go_sem, seval]
  refine ACalls.det (leaf25_calls Γ 1 _) ?_
  simp (disch := omega) only [go_sem, seval]
  refine ACalls.det (l1 _) ?_
  simp (disch := omega) only [go_sem, seval]
  refine awp_seq (aCode_ok Ty.mixed _ _ _ _ (by kernel_rfl) ?_)
  simp (disch := omega) only [go_sem, seval]
  refine ACalls.det (leaf25_calls Γ 1 _) ?_
  simp (disch := omega) only [go_sem, seval]
  refine ACalls.det (ACalls.ofLoose (of25_calls Γ 1 [] _ (by decide)) (by simp [looseL, loose, encI])) ?_
  simp (disch := omega) only [go_sem, seval]
  refine ACalls.det (l2 _) ?_
  simp (disch := omega) only [go_sem, seval]
  refine awp_seq (aCode_ok Ty.mixed _ _ _ _ (by kernel_rfl) ?_)
  simp (disch := omega) only [go_sem, seval]
  refine ACalls.det (leaf25_calls Γ 1 _) ?_
  simp (disch := omega) only [go_sem, seval]
  refine ACalls.det (leaf25_calls Γ 2 _) ?_
  simp (disch := omega) only [go_sem, seval]
  refine ACalls.det (ACalls.ofLoose (a1 _) (by simp [looseL, loose, encI, encII, loose_G])) ?_
  simp (disch := omega) only [go_sem, seval]
  refine awp_seq (aCode_ok Ty.mixed _ _ _ _ (by kernel_rfl) ?_)
  simp (disch := omega) only [go_sem, seval]
  refine ACalls.det (ACalls.ofLoose (of25_calls Γ 0 [1] _ (by decide)) (by simp [looseL, loose, encI])) ?_
  simp (disch := omega) only [go_sem, seval]
  refine ACalls.det (leaf25_calls Γ 1 _) ?_
  simp (disch := omega) only [go_sem, seval]
  refine ACalls.det (m2 _) ?_
  simp (disch := omega) only [go_sem, seval]
  refine awp_seq (aCode_ok Ty.mixed _ _ _ _ (by kernel_rfl) ?_)
  simp (disch := omega) only [go_sem, seval]
  refine ACalls.det (ACalls.ofLoose (of25_calls Γ 2 [1, 2] _ (by decide)) (by simp [looseL, loose, encI])) ?_
  simp (disch := omega) only [go_sem, seval]
  refine ACalls.det (ACalls.ofLoose (of25_calls Γ 2 [1, 2, 3] _ (by decide)) (by simp [looseL, loose, encI])) ?_
  simp (disch := omega) only [go_sem, seval]
  refine ACalls.det (m3 _) ?_
  simp (disch := omega) only [go_sem, seval]
  refine awp_seq (aCode_ok Ty.mixed _ _ _ _ (by kernel_rfl) ?_)
  simp (disch := omega) only [go_sem, seval]
  refine ACalls.det (ACalls.ofLoose (of25_calls Γ 2 [1, 2, 3] _ (by decide)) (by simp [looseL, loose, encI])) ?_
  simp (disch := omega) only [go_sem, seval]
  refine ACalls.det (ACalls.ofLoose (of25_calls Γ 2 [1, 2] _ (by decide)) (by simp [looseL, loose, encI])) ?_
  simp (disch := omega) only [go_sem, seval]
  refine ACalls.det (m4 _) ?_
  simp (disch := omega) only [go_sem, seval]
  refine awp_seq (aCode_ok Ty.mixed _ _ _ _ (by kernel_rfl) ?_)
  simp (disch := omega) only [go_sem, seval]
  refine ACalls.det (ACalls.ofLoose (of25_calls Γ 1 [3, 2] _ (by decide)) (by simp [looseL, loose, encI])) ?_
  simp (disch := omega) only [go_sem, seval]
  refine ACalls.det (ACalls.ofLoose (of25_calls Γ 2 [1, 2, 3] _ (by decide)) (by simp [looseL, loose, encI])) ?_
  simp (disch := omega) only [go_sem, seval]
  refine ACalls.det (l3 _) ?_
  simp (disch := omega) only [go_sem, seval]
  refine awp_seq (aCode_ok Ty.mixed _ _ _ _ (by kernel_rfl) ?_)
  simp (disch := omega) only [go_sem, seval]
  refine ACalls.det (ACalls.ofLoose (of25_calls Γ 2 [1, 2] _ (by decide)) (by simp [looseL, loose, encI])) ?_
  simp (disch := omega) only [go_sem, seval]
  refine ACalls.det (ACalls.ofLoose (of25_calls Γ 2 [1, 2, 3] _ (by decide)) (by simp [looseL, loose, encI])) ?_
  simp (disch := omega) only [go_sem, seval]
  refine ACalls.det (l4 _) ?_
  simp (disch := omega) only [go_sem, seval]
  refine awp_seq (aCode_ok Ty.mixed _ _ _ _ (by kernel_rfl) ?_)
  simp (disch := omega) only [go_sem, seval]
  refine ACalls.det (ACalls.ofLoose (of25_calls Γ 1 [3, 2] _ (by decide)) (by simp [looseL, loose, encI])) ?_
  simp (disch := omega) only [go_sem, seval]
  refine ACalls.det (ACalls.ofLoose (of25_calls Γ 2 [1, 2, 3] _ (by decide)) (by simp [looseL, loose, encI])) ?_
  simp (disch := omega) only [go_sem, seval]
  refine ACalls.det (ACalls.ofLoose (a2 _) (by simp [looseL, loose, encI, encII, loose_G])) ?_
  simp (disch := omega) only [go_sem, seval]
  refine awp_seq (aCode_ok Ty.mixed _ _ _ _ (by kernel_rfl) ?_)
  simp (disch := omega) only [go_sem, seval]
  refine ACalls.det (ACalls.ofLoose (of25_calls Γ 1 [3, 2] _ (by decide)) (by simp [looseL, loose, encI])) ?_
  simp (disch := omega) only [go_sem, seval]
  refine ACalls.det (ACalls.ofLoose (of25_calls Γ 2 [1, 2, 3] _ (by decide)) (by simp [looseL, loose, encI])) ?_
  simp (disch := omega) only [go_sem, seval]
  refine ACalls.det (ACalls.ofLoose (a3 _) (by simp [looseL, loose, encI, encII, loose_G])) ?_
  simp (disch := omega) only [go_sem, seval]
  refine awp_seq ?_
  obtain ⟨cs, hcs⟩ : ∃ cs : List AV, cs = zrow 257 [.sl [] .full] := ⟨_, rfl⟩
  obtain ⟨H, hH⟩ : ∃ H : List Nat → AH, H = fun done => if 3 ∈ done then h ++ [.frozen] else if 2 ∈ done then h ++ [.row cs 29] else h := ⟨_, rfl⟩
  have H0 : h = H [] := by rw [hH]; simp
  have HF : ∀ G : AH → Prop, G (H []) → G h := fun G q => H0 ▸ q
  refine HF (fun h => AWP Try.prog Γ _ _ _ _ h) ?_
  refine awp_any_vals [[], [0], [], [0, 1, 2], [3], [4], [4], [5], [6]] [1, 2, 3, 4, 5, 6, 7, 8, 9, 10, 11, 14, 15, 16, 17, 19, 20, 21, 22, 23, 25, 26, 27, 28, 29, 30] (fun q => [encG (lf 1), encG (lf 1), .ms h.length 0 257 257 1, .tuple [.bool false, .int .i64 2], .tuple [.bool false, .int .i64 2], .bool false, .int .i64 2, .bool false, .int .i64 2].getD q .top) H Ty.mixed (by kernel_rfl) (by kernel_rfl) (by kernel_rfl) (by kernel_rfl) ?_ ?_
  · intro q o ho done σ hd hcl hni hf hv C hC
    have eH : ∀ q, q ≠ 2 → q ≠ 3 → H (q :: done) = H done := fun q h2 h3 => by
      rw [hH]; simp only [List.mem_cons]; simp [Ne.symm h2, Ne.symm h3]
    rcases q with _ | _ | _ | _ | _ | _ | _ | _ | _ | q
    all_goals simp only [List.getElem?_toArray, List.getElem?_cons_zero, List.getElem?_cons_succ, Option.some.injEq, List.getElem?_nil, reduceCtorEq, Nat.zero_add, Nat.reduceAdd] at ho
    all_goals subst ho
    all_goals rw [aOper_plain]
    · rw [eH _ (by decide) (by decide)] at hC
      simp (disch := omega) only [go_sem, seval]
      refine ACalls.det (leaf25_calls Γ 1 _) ?_
      exact hC
    · rw [eH _ (by decide) (by decide)] at hC
      simp (disch := omega) only [go_sem, seval]
      refine ACalls.det (leaf25_calls Γ 1 _) ?_
      exact hC
    · have h3 : 3 ∉ done := fun h => hni (hcl 3 h 2 (by decide))
      have e1 : H done = h := by rw [hH]; simp only; rw [if_neg h3, if_neg hni]
      have e2 : H (2 :: done) = h ++ [.row cs 29] := by rw [hH]; simp [h3]
      rw [e2] at hC
      rw [e1]
      rw [hcs] at hC
      simp (disch := omega) only [go_sem, seval]
      exact hC
    · have v0 : lk σ 129 = encG (lf 1) := hv 0 (hd 0 (by decide)) (by decide)
      have v1 : lk σ 130 = encG (lf 1) := hv 1 (hd 1 (by decide)) (by decide)
      have v2 : lk σ 131 = .ms h.length 0 257 257 1 := hv 2 (hd 2 (by decide)) (by decide)
      have e1 : H done = h ++ [.row cs 29] := by rw [hH]; simp only; rw [if_neg hni, if_pos (hd 2 (by decide))]
      have e2 : H (3 :: done) = h ++ [.frozen] := by rw [hH]; simp
      rw [e2] at hC
      rw [e1]
      simp (disch := omega) only [go_sem, seval, v0, v1, v2]
      have hi : (h ++ [.row cs 29])[h.length]? = some (.row cs 29) := by simp
      have hz := Froze.set hi
      rw [show (h ++ [AObj.row cs 29]).set h.length AObj.frozen = h ++ [AObj.frozen] from by simp] at hz
      refine ACalls.ofFreeze hi hz ?_
      have ef : fzV h.length cs (.ms h.length 0 257 257 1) = .sl (rowsOf 1 257 cs) .free := by rw [fzV, if_pos ⟨rfl, by rw [hcs]; decide +kernel⟩, List.drop_zero]
      have el : loose (.sl (rowsOf 1 257 cs) .free) = .sl (encII (List.replicate 257 [])) .free := by rw [hcs]; kernel_rfl
      refine ACalls.detH (ACalls.ofLoose (a4 _) ?_) hC
      simp only [List.map_cons, List.map_nil, ef, fz_G, looseL, el, loose_G]
      rfl
    · rw [eH _ (by decide) (by decide)] at hC
      have v3 : lk σ 132 = .tuple [.bool false, .int .i64 2] := hv 3 (hd 3 (by decide)) (by decide)
      simp (disch := omega) only [go_sem, seval, v3]; exact hC
    · rw [eH _ (by decide) (by decide)] at hC
      have v4 : lk σ 128 = .tuple [.bool false, .int .i64 2] := hv 4 (hd 4 (by decide)) (by decide)
      simp (disch := omega) only [go_sem, seval, v4]; exact hC
    · rw [eH _ (by decide) (by decide)] at hC
      have v4 : lk σ 128 = .tuple [.bool false, .int .i64 2] := hv 4 (hd 4 (by decide)) (by decide)
      simp (disch := omega) only [go_sem, seval, v4]; exact hC
    · rw [eH _ (by decide) (by decide)] at hC
      have v5 : lk σ 133 = .bool false := hv 5 (hd 5 (by decide)) (by decide)
      simp (disch := omega) only [go_sem, seval, v5]; exact hC
    · rw [eH _ (by decide) (by decide)] at hC
      have v6 : lk σ 134 = .int .i64 2 := hv 6 (hd 6 (by decide)) (by decide)
      simp (disch := omega) only [go_sem, seval, v6]; exact hC
  · intro done σ hd hf hv
    have v7 : lk σ 31 = .bool false := hv 7 (by decide)
    have v8 : lk σ 32 = .int .i64 2 := hv 8 (by decide)
    have e1 : H done = h ++ [.frozen] := by rw [hH]; simp only; rw [if_pos (hd 3 (by decide))]
    rw [e1]
    simp (disch := omega) only [go_sem, seval]
    refine AWP.weaken (σ' := [(1, .sl (encI [2]) .free), (2, .bool true), (3, .int .i64 0), (4, .sl (encNs [0]) .free), (5, .bool true), (6, .int .i64 0), (7, .sl (encNs []) .free), (8, .bool true), (9, .int .i64 0), (10, .bool false), (11, .int .i64 0), (14, .int .i64 220), (15, .sl (encI [1, 3]) .free), (16, .bool true), (17, .int .i64 0), (19, .bool false), (20, .int .i64 0), (21, .sl (encNs [0, 1, 0]) .free), (22, .bool true), (23, .int .i64 0), (25, .bool false), (26, .int .i64 0), (27, .bool true), (28, .int .i64 0), (29, .bool false), (30, .int .i64 0), (31, .bool false), (32, .int .i64 2)]) ?_ (lk_sub σ _ ?_)
    rotate_left
    · intro p hp
      simp only [List.mem_cons, List.not_mem_nil, or_false] at hp
      rcases hp with rfl | rfl | rfl | rfl | rfl | rfl | rfl | rfl | rfl | rfl | rfl | rfl | rfl | rfl | rfl | rfl | rfl | rfl | rfl | rfl | rfl | rfl | rfl | rfl | rfl | rfl | rfl | rfl
      all_goals first | exact v7 | exact v8 | exact (hf _ (by decide)).trans rfl
    refine aCode_ok Ty.mixed _ _ _ _ (by kernel_rfl) ?_
    have c9 := fun h => people_calls Γ [2] h (by decide)
    rw [show ascF (-1) [2] = true from by decide +kernel] at c9
    simp (disch := omega) only [go_sem, seval, encI, encNs, List.map_cons, List.map_nil]
    refine ACalls.det (c9 _) ?_
    simp (disch := omega) only [go_sem, seval, encI, encNs, List.map_cons, List.map_nil]
end Go.Proofs.Ytelehpccfaedjaa
