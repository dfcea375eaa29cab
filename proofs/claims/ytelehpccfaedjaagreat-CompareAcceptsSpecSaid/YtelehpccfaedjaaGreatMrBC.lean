/- Texts joined: CmpD, CmpE. No conditions. -/
import Derived.Test.YtelehpccfaedjaaGreatMrBB
/- The reference of compare, continued: Few, FewSets, Less, Accepts. No conditions. -/
set_option linter.unusedSimpArgs false
set_option linter.unusedVariables false
namespace Go.Proofs.YtelehpccfaedjaaGreat
open Go Go.Proofs Go.Abs

theorem few22_leaves {g : Gt} (h : few22F g = true) : allLeaves g ≤ 300 := by
  simp [few22F] at h
  have := leaves_all g 300 (by omega)
  omega
def few25F (g : Gt) : Bool := few22F g && (decide (checkF g ≠ 0) || decide ((pplF g).length ≤ 8) || decide (12 < (pplF g).length))
set_option maxRecDepth 100000 in
theorem few25_calls (Γ : Nat → Option (List AV)) (g : Gt) (h : AH) (hs : Sh g) : ACalls Tryz.prog Γ 6 [encG g] h fun v h' => h' = h ∧ v = .bool (few25F g) := by
  have c1 := fun h => few22_calls Γ g h hs
  have c2 := fun h => refcheck_calls Γ g h hs
  have c3 := fun (hf : allLeaves g ≤ 1000) h => ppl_calls Γ g h hs hf
  have hb := fun (hf : few22F g = true) => few22_leaves hf
  rw [few25F]
  generalize few22F g = fw at *
  generalize checkF g = ce at *
  generalize pplF g = P at *
  generalize allLeaves g = al at *
  cases g with | mk p n gl =>
  simp only [encG_mk] at c1 c2 c3 ⊢
  refine ACalls.drop ?_
  refine acalls_code (rs := [.tmp 2]) Tryz.func6 rfl rfl rfl rfl Ty.mixed (by kernel_rfl) ?_
  simp (disch := omega) only [go_sem, seval]
  refine ACalls.det (c1 _) ?_
  simp (disch := omega) only [go_sem, seval]
  refine aBr.intro (fun h1 => ?_) (fun h1 => ?_) <;> simp (disch := omega) only [go_sem, seval]
  rotate_left
  · simp at h1; simp [h1]
  have hb := hb h1
  subst h1
  refine ACalls.det (c2 _) ?_
  simp (disch := omega) only [go_sem, seval]
  refine aIf.intro (fun h2 => ?_) (fun h2 => ?_) <;> simp (disch := omega) only [go_sem, seval]
  rotate_left
  · simp [h2]
  refine ACalls.det (c3 (by omega) _) ?_
  simp (disch := omega) only [go_sem, seval, encI_len]
  refine aIf.intro (fun h3 => ?_) (fun h3 => ?_) <;> simp (disch := omega) only [go_sem, seval]
  · have : P.length ≤ 8 := by omega
    simp [this]
  refine ACalls.det (c3 (by omega) _) ?_
  simp (disch := omega) only [go_sem, seval, encI_len]
  have : ¬ P.length ≤ 8 := by omega
  simp [this, h2]
  try omega
def fewS25 (l : List (List Int)) : Bool := l.all (fun s => decide (s.length ≤ 70)) && (decide (l.length ≤ 100) || (decide (256 < l.length) && decide (l.length ≤ 300)))
set_option maxRecDepth 100000 in
theorem fewsets25_calls (Γ : Nat → Option (List AV)) (l : List (List Int)) (h : AH) (hl : l.length ≤ 9223372036854775807) :
    ACalls Tryz.prog Γ 12 [.sl (encII l) .free] h fun v h' => h' = h ∧ v = .bool (fewS25 l) := by
  refine ACalls.drop ?_
  refine acalls_code (rs := [.tmp 2]) Tryz.func12 rfl rfl rfl rfl Ty.mixed (by kernel_rfl) ?_
  simp (disch := omega) only [go_sem, seval]
  refine awp_loopL (β := Unit) l [0, 3] (fun don _ => [(0, .sl (encII l) .free), (3, .int .i64 don.length)]) (fun _ => h) (fun don rest _ => l.all (fun s => decide (s.length ≤ 70)) = rest.all fun s => decide (s.length ≤ 70)) () ?_ rfl rfl Ty.mixed (by kernel_rfl) ?_ ?_
  · simp (disch := omega) only [go_sem, seval]
  · rintro don x r _ rfl hx
    have hl3 := len_mid hl
    have e1 := encII_get don r x
    simp (disch := omega) only [go_sem, seval, encII_len, List.length_append, List.length_cons]
    refine aIf.pos (by omega) ?_
    simp (disch := omega) only [go_sem, seval, encII_len, List.length_append, List.length_cons, e1, encI_len]
    rw [List.all_cons] at hx
    refine aIf.intro (fun h1 => ?_) (fun h1 => ?_) <;> simp (disch := omega) only [go_sem, seval]
    · rw [fewS25, hx, decide_eq_false (by omega)]; rfl
    · refine roundL_next () ?_ ?_ rfl
      · rw [hx, decide_eq_true (by omega)]; rfl
      · simp (disch := omega) only [go_sem, seval, List.length_append]
  · intro _ hx
    simp (disch := omega) only [go_sem, seval, encII_len]
    refine AWP.keep [0] (aCode_ok Ty.mixed _ _ _ _ (by kernel_rfl) ?_)
    simp (disch := omega) only [go_sem, seval, encII_len]
    rw [fewS25, hx, List.all_nil, Bool.true_and]
    refine aIf.intro (fun h2 => ?_) (fun h2 => ?_) <;> simp (disch := omega) only [go_sem, seval, encII_len]
    · have : l.length ≤ 100 := by omega
      simp [this]
    have h2' : ¬ l.length ≤ 100 := by omega
    refine aIf.intro (fun h3 => ?_) (fun h3 => ?_) <;> simp (disch := omega) only [go_sem, seval, encII_len]
    · have : 256 < l.length := by omega
      simp [this, h2']
      try omega
    · have : ¬ 256 < l.length := by omega
      simp [this, h2']

theorem part_calls_r (Γ : Nat → Option (List AV)) (a b : List Int) (h : AH) (hl : a.length ≤ 1000000) (ho : b.length ≤ 1000000) :
    ACalls Tryz.prog Γ 33 [.sl (encI a) .free, .sl (encI b) .free] h fun v h' => h' = h ∧ v = .bool (prtF a b) := inside_calls Γ a b h hl ho
theorem encNs_snoc (l : List Nat) (k : Nat) : encNs (l ++ [k]) = encNs l ++ [.int .i64 (k : Int)] := by simp [encNs, encI]
set_option maxRecDepth 100000 in
theorem rless_calls (Γ : Nat → Option (List AV)) (old now : Gt) (h : AH) (ho : Sh old) (hn : Sh now) :
    ACalls Tryz.prog Γ 10 [encG old, encG now] h fun v h' => h' = h ∧ v = encL (lessR old now) := by
  have c1 := fun h => rsets_calls Γ old h ho
  have c2 := fun h => rsets_calls Γ now h hn
  have b1 : ∀ s ∈ (smallR old false).1, s.length ≤ 1000000 := fun s hs => by have := small_in hs; omega
  have b2 : ∀ s ∈ (smallR now false).1, s.length ≤ 1000000 := fun s hs => by have := small_in hs; omega
  have hl := small_le now false
  have hl1 := small_le old false
  rw [lessR, encL]
  simp only [encS] at c1 c2
  generalize smallR now false = S at *
  obtain ⟨S, e⟩ := S
  generalize smallR old false = L at *
  obtain ⟨L, e'⟩ := L
  simp only at c1 c2 hl hl1 b1 b2 ⊢
  cases old with | mk p n gl =>
  cases now with | mk p2 n2 gl2 =>
  simp only [encG_mk] at c1 c2 ⊢
  refine ACalls.dropL ?_
  refine acalls_code (rs := [.tmp 4, .tmp 5, .tmp 6]) Tryz.func10 rfl rfl rfl rfl Ty.mixed (by kernel_rfl) ?_
  simp (disch := omega) only [go_sem, seval]
  refine ACalls.det (c1 _) ?_
  simp (disch := omega) only [go_sem, seval]
  refine aIf.intro (fun hc => ?_) (fun hc => ?_)
  rotate_left
  · simp (disch := omega) only [go_sem, seval]
    rw [if_neg hc]
    rfl
  subst hc
  simp (disch := omega) only [go_sem, seval]
  refine ACalls.det (c2 _) ?_
  simp (disch := omega) only [go_sem, seval]
  refine aIf.intro (fun hc => ?_) (fun hc => ?_)
  rotate_left
  · simp (disch := omega) only [go_sem, seval]
    simp only [if_neg hc]
    rfl
  subst hc
  simp (disch := omega) only [go_sem, seval]
  try simp only [if_true]
  obtain ⟨K, hK⟩ : ∃ K : AH, K = h ++ [.row [.int .i64 p, .int .i64 n, .sl (gl.map encG) .free] 24, .row [.int .i64 p2, .int .i64 n2, .sl (gl2.map encG) .free] 24] := ⟨_, rfl⟩
  rw [← hK]
  have KD : ∀ j : AH, ∃ l, K ++ j = h ++ l := by subst hK; intro j; exact ⟨_, List.append_assoc ..⟩
  refine awp_loopL (β := FlS) S [7, 9, 11, 12] (fun don s => [(7, .sl (encII L) .free), (9, .sl (encII S) .free), (11, .sl (encI s.l) s.own), (12, .int .i64 don.length)])
    (fun s => K ++ s.j) (fun don _ s => OwnAt K s.j s.l.length s.own ∧ ∃ out : List Nat, lessL L don = some out ∧ s.l = out.map fun (k : Nat) => (k : Int)) ⟨[], .full, []⟩ ?_ (by simp) ⟨trivial, [], rfl, rfl⟩ Ty.mixed (by kernel_rfl) ?_ ?_
  · simp (disch := omega) only [go_sem, seval, encI, List.map_nil]
  · rintro don x r ⟨l, own, j⟩ hd ⟨ho', out, hm, he⟩
    simp only at ho' he ⊢
    have hlen : S.length = don.length + 1 + r.length := by rw [hd]; simp; omega
    have e1 : (encII S)[don.length]? = some (.sl (encI x) .free) := by rw [hd]; exact encII_get don r x
    have hml := lessL_len hm
    have hml2 : l.length = don.length := by rw [he, List.length_map, hml]
    have hx := b2 x (by rw [hd]; simp)
    simp (disch := omega) only [go_sem, seval, encII_len]
    refine aIf.pos (by omega) ?_
    simp (disch := omega) only [go_sem, seval]
    refine awp_loopL (β := Unit) L [7, 9, 11, 12, 13] (fun d _ => [(7, .sl (encII L) .free), (9, .sl (encII S) .free), (11, .sl (encI l) own), (12, .int .i64 don.length), (13, .int .i64 d.length)])
      (fun _ => K ++ j) (fun d _ _ => ∀ s ∈ d, prtF s x = false) () ?_ rfl (by simp) Ty.mixed (by kernel_rfl) ?_ ?_
    · simp (disch := omega) only [go_sem, seval]
    · rintro d y q _ hL hs
      have hlen2 : L.length = d.length + 1 + q.length := by rw [hL]; simp; omega
      have e2 : (encII L)[d.length]? = some (.sl (encI y) .free) := by rw [hL]; exact encII_get d q y
      have hy := b1 y (by rw [hL]; simp)
      simp (disch := omega) only [go_sem, seval, encII_len]
      refine aIf.pos (by omega) ?_
      simp (disch := omega) only [go_sem, seval, e1, e2]
      refine aCallF.intro (fun _ => part_calls_r Γ y x _ hy hx) ?_
      simp (disch := omega) only [go_sem, seval]
      refine aBr.intro (fun hb => ?_) (fun hb => ?_) <;> simp (disch := omega) only [go_sem, seval]
      · have hf : insF L x = some d.length := by
          rw [← fidx_ins, hL]; exact fidx_at _ d y q hs hb
        refine AWP.keep [7, 9, 11, 12, 13] (aCode_ok Ty.mixed _ _ _ _ (by kernel_rfl) ?_)
        simp (disch := omega) only [go_sem, seval, encII_len]
        refine aIf.neg (by omega) ?_
        simp (disch := omega) only [go_sem, seval, encI_len]
        refine aAp_sl (by rw [encI_len]; exact ho') (rowsOK_I _) (rowsOK_I [(d.length : Int)]) (by simp [encI_len]; omega) (by simp [encI_len]; omega) fun j' own' ho2 hg => ?_
        rw [encI_snoc]
        simp (disch := omega) only [go_sem, seval]
        refine AWP.keep [7, 9, 11, 12] (aCode_ok Ty.mixed _ _ _ _ (by kernel_rfl) ?_)
        simp (disch := omega) only [go_sem, seval]
        refine roundL_next ⟨l ++ [(d.length : Int)], own', j'⟩ ⟨?_, out ++ [d.length], lessL_snoc hm hf, ?_⟩ ?_ rfl
        · simpa [encI_len] using ho2
        · simp [he]
        · simp (disch := omega) only [go_sem, seval, List.length_append]
      · refine roundL_next () ?_ ?_ rfl
        · intro z hz
          rcases List.mem_append.1 hz with hz | hz
          · exact hs z hz
          · simp at hz; subst hz; exact hb
        · simp (disch := omega) only [go_sem, seval, List.length_append]
    · intro _ hs
      have hf : insF L x = none := by rw [← fidx_ins]; exact fidx_no _ _ hs
      simp (disch := omega) only [go_sem, seval, encII_len]
      refine AWP.keep [7, 9, 11, 12, 13] (aCode_ok Ty.mixed _ _ _ _ (by kernel_rfl) ?_)
      simp (disch := omega) only [go_sem, seval, encII_len]
      rw [hd, lessL_stop hf]
      exact ⟨KD j, rfl⟩
  · rintro ⟨l, own, j⟩ ⟨ho', out, hm, he⟩
    simp only at ho' he ⊢
    simp (disch := omega) only [go_sem, seval, encII_len]
    refine AWP.keep [11] (aCode_ok Ty.mixed _ _ _ _ (by kernel_rfl) ?_)
    simp (disch := omega) only [go_sem, seval]
    rw [hm]
    exact ⟨KD j, by rw [he]; rfl⟩
end Go.Proofs.YtelehpccfaedjaaGreat

/- The reference of compare: Accepts. No conditions. -/
set_option linter.unusedSimpArgs false
set_option linter.unusedVariables false
namespace Go.Proofs.YtelehpccfaedjaaGreat
open Go Go.Proofs Go.Abs

def encAc (r : Bool × Int) : AV := .tuple [.bool r.1, .int .i64 r.2]
theorem ins_len {L : List (List Int)} : ∀ {S : List (List Int)} {ins : List Int}, insL L S ins = true → ins.length = S.length
  | [], [], _ => rfl
  | [], _ :: _, h => by simp [insL] at h
  | _ :: _, [], h => by simp [insL] at h
  | _ :: S, _ :: ins, h => by
    rw [insL, Bool.and_eq_true] at h
    simp [ins_len h.2]
/-- What is checked of one of the second formula's sets. -/
def in1 (L : List (List Int)) (m : List Int) (k : Int) : Bool := decide (0 ≤ k ∧ k < L.length) && prtF (L.getD k.toNat []) m
theorem insL_app (L : List (List Int)) : ∀ (A : List (List Int)) (B : List (List Int)) (i j : List Int), A.length = i.length → insL L (A ++ B) (i ++ j) = (insL L A i && insL L B j)
  | [], B, [], j, _ => by simp [insL]
  | [], _, _ :: _, _, h => by simp at h
  | _ :: _, _, [], _, h => by simp at h
  | a :: A, B, k :: i, j, h => by
    rw [List.cons_append, List.cons_append, insL, insL, insL_app L A B i j (by simpa using h)]
    simp [Bool.and_assoc]
theorem insL_at {L S : List (List Int)} {ins : List Int} (h : insL L S ins = true) (i : Nat) (m : List Int) (k : Int) (hm : S[i]? = some m) (hk : ins[i]? = some k) : in1 L m k = true := by
  induction S generalizing ins i with
  | nil => simp at hm
  | cons a S ih =>
    cases ins with
    | nil => simp at hk
    | cons b ins =>
      rw [insL, Bool.and_eq_true] at h
      cases i with
      | zero => simp at hm hk; subst hm; subst hk; exact h.1
      | succ i => exact ih h.2 i (by simpa using hm) (by simpa using hk)
set_option maxRecDepth 100000 in
theorem racc_calls (Γ : Nat → Option (List AV)) (old now : Gt) (l : List (List Int)) (ins : List Int) (h : AH) (ho : Sh old) (hn : Sh now) (hl : l.length ≤ 1000000) (hb : ∀ a ∈ l, a.length ≤ 1000000) (hi : ins.length ≤ 1000000) :
    ACalls Tryz.prog Γ 14 [encG old, encG now, .sl (encII l) .free, .sl (encI ins) .free] h fun v h' => h' = h ∧ v = encAc (accC old now l ins) := by
  have c1 := fun h => refcheck_calls Γ old h ho
  have c2 := fun h => rsets_calls Γ now h hn
  have c3 := fun s (hs : s.length ≤ 1000000) h => permits_calls Γ old s h ho (by omega)
  have b2 : ∀ s ∈ (smallR now false).1, s.length ≤ 1000000 := fun s hs => by have := small_in hs; omega
  have hls := small_le now false
  rw [accC, encAc]
  simp only [encS] at c2
  simp only [okL]
  generalize hce : checkF old = ce at *
  generalize smallR now false = S at *
  obtain ⟨S, e⟩ := S
  simp only at c2 hls b2 ⊢
  generalize permF old = pf at *
  cases old with | mk p n gl =>
  cases now with | mk p2 n2 gl2 =>
  simp only [encG_mk] at c1 c2 c3 ⊢
  refine ACalls.dropL ?_
  refine acalls_code (rs := [.tmp 8, .tmp 9]) Tryz.func14 rfl rfl rfl rfl Ty.mixed (by kernel_rfl) ?_
  simp (disch := omega) only [go_sem, seval]
  refine ACalls.det (c1 _) ?_
  simp (disch := omega) only [go_sem, seval]
  refine aIf.intro (fun hc => ?_) (fun hc => ?_)
  rotate_left
  · simp (disch := omega) only [go_sem, seval]
    rw [if_neg hc]
  subst hc
  simp (disch := omega) only [go_sem, seval]
  refine ACalls.det (c2 _) ?_
  simp (disch := omega) only [go_sem, seval]
  refine aIf.intro (fun hc => ?_) (fun hc => ?_)
  rotate_left
  · simp (disch := omega) only [go_sem, seval]
    simp only [if_neg hc]
  subst hc
  simp (disch := omega) only [go_sem, seval, encII_len]
  try simp only [if_true]
  refine aIf.intro (fun hc => ?_) (fun hc => ?_) <;> simp (disch := omega) only [go_sem, seval, encII_len]
  · rw [if_pos (by omega)]
  have hl256 : ¬ 256 < l.length := by omega
  rw [if_neg hl256]
  obtain ⟨K, hK⟩ : ∃ K : AH, K = h ++ [.row [.int .i64 p, .int .i64 n, .sl (gl.map encG) .free] 24, .row [.int .i64 p2, .int .i64 n2, .sl (gl2.map encG) .free] 24] := ⟨_, rfl⟩
  have KD : ∃ l, K = h ++ l := by subst hK; exact ⟨_, rfl⟩
  have Kg : K[h.length]? = some (.row [.int .i64 p, .int .i64 n, .sl (gl.map encG) .free] 24) := by subst hK; simp
  rw [← hK]
  refine awp_loopL (β := Unit) l [2, 3, 4, 11, 13] (fun don _ => [(2, .sl (encII l) .free), (3, .sl (encI ins) .free), (4, .ptr (some (h.length, 0))), (11, .sl (encII S) .free), (13, .int .i64 don.length)])
    (fun _ => K) (fun don _ _ => ∀ s ∈ don, (ascF (-1) s && pf s) = true) () ?_ rfl (by simp) Ty.mixed (by kernel_rfl) ?_ ?_
  · simp (disch := omega) only [go_sem, seval]
  · rintro don x r _ hd hs
    have hlen : l.length = don.length + 1 + r.length := by rw [hd]; simp; omega
    have e1 : (encII l)[don.length]? = some (.sl (encI x) .free) := by rw [hd]; exact encII_get don r x
    have hx := hb x (by rw [hd]; simp)
    have bad : (ascF (-1) x && pf x) = false → (l.all fun s => ascF (-1) s && pf s) = false := fun e => List.all_eq_false.2 ⟨x, by rw [hd]; simp, by rw [e]; simp⟩
    simp (disch := omega) only [go_sem, seval, encII_len]
    refine aIf.pos (by omega) ?_
    simp (disch := omega) only [go_sem, seval, e1, Kg]
    refine aCallF.intro (fun _ => people_calls Γ x _ (by omega)) ?_
    simp (disch := omega) only [go_sem, seval]
    refine aBr.intro (fun h1 => ?_) (fun h1 => ?_) <;> simp (disch := omega) only [go_sem, seval, e1, Kg]
    · rw [bad (by cases hq : ascF (-1) x <;> simp_all)]
      exact ⟨KD, rfl⟩
    · refine aCallF.intro (fun _ => c3 x hx _) ?_
      simp (disch := omega) only [go_sem, seval]
      refine aBr.intro (fun h2 => ?_) (fun h2 => ?_) <;> simp (disch := omega) only [go_sem, seval, e1]
      · refine roundL_next () ?_ ?_ rfl
        · intro z hz
          rcases List.mem_append.1 hz with hz | hz
          · exact hs z hz
          · simp at hz; subst hz; simpa [h2] using h1
        · simp (disch := omega) only [go_sem, seval, List.length_append]
      · rw [bad (by cases hq : pf x <;> simp_all)]
        exact ⟨KD, rfl⟩
  · intro _ hs
    simp (disch := omega) only [go_sem, seval, encII_len]
    refine AWP.keep [2, 3, 11] (aCode_ok Ty.mixed _ _ _ _ (by kernel_rfl) ?_)
    simp (disch := omega) only [go_sem, seval, encII_len, encI_len]
    rw [List.all_eq_true.2 hs, Bool.true_and]
    refine aIf.intro (fun h1 => ?_) (fun h1 => ?_) <;> simp (disch := omega) only [go_sem, seval, encII_len]
    rotate_left
    · cases hx : insL l S ins with
      | false => exact ⟨KD, rfl⟩
      | true => exact absurd (ins_len hx) (by omega)
    have h1' : ins.length = S.length := by omega
    refine awp_loopL (β := Unit) S [2, 3, 11, 14] (fun don _ => [(2, .sl (encII l) .free), (3, .sl (encI ins) .free), (11, .sl (encII S) .free), (14, .int .i64 don.length)])
      (fun _ => K) (fun don _ _ => insL l don (ins.take don.length) = true) () ?_ rfl (by simp [insL]) Ty.mixed (by kernel_rfl) ?_ ?_
    · simp (disch := omega) only [go_sem, seval]
    · rintro don x r _ hd hs
      have hlen : S.length = don.length + 1 + r.length := by rw [hd]; simp; omega
      have e1 : (encII S)[don.length]? = some (.sl (encI x) .free) := by rw [hd]; exact encII_get don r x
      have hx := b2 x (by rw [hd]; simp)
      have hdi : don.length < ins.length := by omega
      have e2 := encI_get ins don.length hdi
      have ek : ins[don.length]? = some ins[don.length] := List.getElem?_eq_getElem hdi
      have etk : ins.take (don.length + 1) = ins.take don.length ++ [ins[don.length]] := List.take_succ_eq_append_getElem hdi
      generalize ins[don.length] = k at e2 ek etk
      have bad : in1 l x k = false → insL l S ins = false := fun e => by
        cases hx : insL l S ins with
        | false => rfl
        | true => exact absurd (insL_at hx don.length x k (by rw [hd]; simp) ek) (by rw [e]; simp)
      simp (disch := omega) only [go_sem, seval, encII_len]
      refine aIf.pos (by omega) ?_
      simp (disch := omega) only [go_sem, seval, e1, e2, encII_len]
      refine aIf.intro (fun h2 => ?_) (fun h2 => ?_) <;> simp (disch := omega) only [go_sem, seval, e1, e2, encII_len]
      · rw [bad (by rw [in1, decide_eq_false (by omega)]; rfl)]
        exact ⟨KD, rfl⟩
      refine aIf.intro (fun h3 => ?_) (fun h3 => ?_) <;> simp (disch := omega) only [go_sem, seval, e1, e2, encII_len]
      · rw [bad (by rw [in1, decide_eq_false (by omega)]; rfl)]
        exact ⟨KD, rfl⟩
      obtain ⟨i, rfl⟩ : ∃ i : Nat, k = i := ⟨k.toNat, by omega⟩
      have hil : i < l.length := by omega
      have e3 : (encII l)[i]? = some (.sl (encI l[i]) .free) := by simp [encII, hil]
      have hy := hb l[i] (List.getElem_mem hil)
      have ein : in1 l x i = prtF l[i] x := by rw [in1, decide_eq_true (by omega), Bool.true_and, Int.toNat_natCast, List.getD_eq_getElem?_getD, List.getElem?_eq_getElem hil, Option.getD_some]
      simp (disch := omega) only [go_sem, seval, e1, e2, e3, encII_len]
      refine aCallF.intro (fun _ => part_calls_r Γ l[i] x _ hy hx) ?_
      simp (disch := omega) only [go_sem, seval]
      refine aBr.intro (fun h4 => ?_) (fun h4 => ?_) <;> simp (disch := omega) only [go_sem, seval]
      · refine roundL_next () ?_ ?_ rfl
        · rw [List.length_append, List.length_singleton, etk, insL_app _ _ _ _ _ (by simp; omega), hs, Bool.true_and, insL, insL, Bool.and_true]
          exact ein.trans (by simpa using h4)
        · simp (disch := omega) only [go_sem, seval, List.length_append]
      · rw [bad (by rw [ein, h4]; rfl)]
        exact ⟨KD, rfl⟩
    · intro _ hs
      rw [← h1', List.take_length] at hs
      simp (disch := omega) only [go_sem, seval, encII_len]
      refine AWP.keep [] (aCode_ok Ty.mixed _ _ _ _ (by kernel_rfl) ?_)
      simp (disch := omega) only [go_sem, seval]
      rw [hs]
      exact ⟨KD, rfl⟩
end Go.Proofs.YtelehpccfaedjaaGreat
