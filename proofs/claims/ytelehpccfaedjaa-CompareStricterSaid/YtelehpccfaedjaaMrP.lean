/- Texts joined: MinD, MinE, MinF. No conditions. -/
import Derived.Test.YtelehpccfaedjaaMrO
import Derived.Test.YtelehpccfaedjaaMrG
/- What the program asks of a formula. No conditions. -/
set_option linter.unusedSimpArgs false
set_option linter.unusedVariables false
namespace Go.Proofs.Ytelehpccfaedjaa
open Go Go.Proofs Go.Abs

def knownV (g : Gt) : List AV := (List.range (2 ^ (pplF g).length)).map fun s => .bool (holdP g (listF (pplF g) s))
def qV (g : Gt) : AV := .agg [.sl (encI (pplF g)) .free, .int .u64 ((2 ^ (pplF g).length - 1 : Nat) : Int), .func 100 [] [.eptr [.sl (knownV g) .free]]]
def q0V : AV := .agg [.sl [] .free, .int .u64 0, .nilFunc]
def askV (g : Gt) : AV := if errF g = 0 then .tuple [qV g, .int .i64 0] else .tuple [q0V, .int .i64 (errF g)]
theorem rb_ask (k : Nat) (g : Gt) : RB k (.func 100 [] [.eptr [.sl (knownV g) .free]]) = True := eq_true (.func (RBs.nil _) (RBs.cons (.eptr (RBs.cons (.sl' fun r hr => by obtain ⟨x, _, rfl⟩ := List.mem_map.1 hr; exact .bool _) (RBs.nil _))) (RBs.nil _)))
theorem loose_known (g : Gt) : looseL (knownV g) = knownV g := looseL_maps _ (fun _ => by rw [loose]) _
theorem loose_ask (g : Gt) : loose (.func 100 [] [.eptr [.sl (knownV g) .free]]) = .func 100 [] [.eptr [.sl (knownV g) .free]] := rfl
theorem eval_hold {g : Gt} (h : checkF g = 0) (s : Nat) : rholdsF (fun p => decide (p ∈ listF (pplF g) s)) g = holdP g (listF (pplF g) s) := by
  rw [rholds_eq _ g (checkF_right h), holdP, (permF_asc h (sub_asc h (listF_sub _ s))).2]
theorem fz_ptr {i j o : Nat} {cs : List AV} (h : j ≠ i) : fzV i cs (.ptr (some (j, o))) = .ptr (some (j, o)) := by rw [fzV, if_neg h]
theorem fz_ptr_self (i o : Nat) (cs : List AV) : fzV i cs (.ptr (some (i, o))) = .eptr (cs.drop o) := by rw [fzV, if_pos rfl]
theorem fz_whole (i N : Nat) (cs : List AV) (h1 : cs.length = N) (h2 : ∀ c ∈ cs, c.isAgg = false) : fzV i cs (.ms i 0 N N 1) = .sl cs .free := by
  have hok : fzOK cs 0 N N 1 = true := by
    simp only [fzOK, Bool.and_eq_true, decide_eq_true_eq, List.all_eq_true, Bool.not_eq_true']
    exact ⟨⟨⟨by omega, by omega⟩, by decide⟩, h2⟩
  rw [fzV, if_pos ⟨rfl, hok⟩, List.drop_zero, rowsOf_one _ _ (by omega), ← h1, List.take_length]
theorem zrow_bool (k : Nat) : zrow k [AV.bool false] = List.replicate k (.bool false) := by
  induction k with
  | zero => rfl
  | succ k ih => simp only [zrow, List.replicate_succ, List.flatten_cons] at ih ⊢; rw [ih]; rfl
def rowV (g : Gt) (N s : Nat) : List AV := (List.range s).map (fun i => .bool (holdP g (listF (pplF g) i))) ++ List.replicate (N - s) (.bool false)
theorem rowV_len (g : Gt) (N s : Nat) (h : s ≤ N) : (rowV g N s).length = N := by simp [rowV]; omega
theorem rowV_zero (g : Gt) (N : Nat) : rowV g N 0 = List.replicate N (.bool false) := by simp [rowV]
theorem rowV_set (g : Gt) (N s : Nat) (h : s < N) : (rowV g N s).set s (.bool (holdP g (listF (pplF g) s))) = rowV g N (s + 1) := by
  obtain ⟨k, rfl⟩ : ∃ k, N = s + (k + 1) := ⟨N - s - 1, by omega⟩
  rw [rowV, rowV, show s + (k + 1) - s = k + 1 from by omega, show s + (k + 1) - (s + 1) = k from by omega, List.replicate_succ, List.range_succ, List.map_append, List.append_assoc]
  rw [List.set_append_right _ _ (by simp)]
  simp
set_option maxRecDepth 100000 in
theorem ask_calls (Γ : Nat → Option (List AV)) (g : Gt) (h : AH) (hs : Sh g) :
    ACalls Try.prog Γ 71 [encG g] h fun v h' => h' = h ∧ v = askV g := by
  cases g with | mk p n gl =>
  have c0 := fun h => check_calls Γ (.mk p n gl) h hs
  rw [askV]
  generalize hG : (Gt.mk p n gl) = G at *
  have eG : encG G = .agg [.int .i64 p, .int .i64 n, .sl (gl.map encG) .free] := by rw [← hG, encG_mk]
  refine ACalls.dropL ?_
  rw [eG] at c0 ⊢
  refine acalls_code (rs := [.cell 2 121, .tmp 3]) Try.func71 rfl rfl rfl rfl Ty.mixed (by kernel_rfl) ?_
  simp (disch := omega) only [go_sem, seval]
  refine ACalls.det (c0 _) ?_
  simp (disch := omega) only [go_sem, seval]
  refine aIf.intro (fun herr => ?_) (fun herr => ?_) <;> simp (disch := omega) only [go_sem, seval]
  rotate_left
  · have : errF G = checkF G := by rw [errF, if_neg herr]
    rw [if_neg (by omega), this]
    exact ⟨.nilFunc, rfl⟩
  have hlv := check_leaves herr
  have c1 := fun h => gather24_calls Γ G h hs (by omega)
  rw [eG] at c1
  refine ACalls.then (c1 _) ?_
  rintro v _ ⟨j, rfl, hv⟩
  have hvc : v.cells = [v] := by rcases hv with ⟨rfl, _⟩ | ⟨q, c, pad, rfl, _⟩ <;> rfl
  have hvg : v.good = true := by rcases hv with ⟨rfl, _⟩ | ⟨q, c, pad, rfl, _⟩ <;> rfl
  obtain ⟨K, hK⟩ : ∃ K : AH, K = h ++ [.row [.int .i64 p, .int .i64 n, .sl (gl.map encG) .free] 54, .row [.sl [] .full, .int .u64 0, .nilFunc] 121] := ⟨_, rfl⟩
  have Kl : K.length = h.length + 2 := by rw [hK]; simp
  have KX : ∀ X : AH, h ++ .row [.int .i64 p, .int .i64 n, .sl (gl.map encG) .free] 54 :: .row [.sl [] .full, .int .u64 0, .nilFunc] 121 :: X = K ++ X := fun X => by rw [hK]; simp
  have KD : ∀ j : AH, ∃ l, K ++ j = h ++ l := by subst hK; intro j; exact ⟨_, List.append_assoc ..⟩
  rw [← hK] at hv
  have ho := occF_len G
  have Kc : ∀ (j : AH) r X, (K ++ (j ++ r :: X))[h.length + 2 + j.length]? = some r := by intro j r X; rw [← Kl, hget_add]; simp
  have Kt : ∀ (j : AH) r X r', (K ++ (j ++ r :: X)).set (h.length + 2 + j.length) r' = K ++ (j ++ r' :: X) := by intro j r X r'; rw [← Kl, hset_add]; simp
  simp (disch := omega) only [go_sem, seval, hvc, hvg, KX, Kc, splice]
  refine ACalls.then (sortM_calls Γ K j _ _ v _ hv (by omega)) ?_
  rintro _ _ ⟨j1, hj1, rfl, hv1⟩
  rw [← hj1]
  clear hv hj1
  simp (disch := omega) only [go_sem, seval, hvc, hvg, KX, Kc, splice]
  refine ACalls.then (compactM_calls Γ K j1 _ _ v _ hv1 (by rw [(sortI_perm _).length_eq]; omega)) ?_
  rintro _ _ ⟨rfl, j2, hj2, rfl⟩
  rw [← hj2]
  clear hv1 hj2
  rw [people_eq herr]
  simp (disch := omega) only [go_sem, seval, KX, Kc, Kt, encI_len]
  obtain ⟨B, hB⟩ : ∃ B : AH, B = K ++ j2 := ⟨_, rfl⟩
  have Bl : K.length + j2.length = B.length := by rw [hB, List.length_append]
  have BX : ∀ X, K ++ (j2 ++ X) = B ++ X := fun X => by rw [hB, List.append_assoc]
  have Bg : ∀ X : AH, (B ++ X)[h.length]? = some (.row [.int .i64 p, .int .i64 n, .sl (gl.map encG) .free] 54) := fun X => by rw [hB, hK, List.append_assoc, List.append_assoc]; simp
  have Bq : ∀ X : AH, (B ++ X)[h.length + 1]? = some (.row [.sl [] .full, .int .u64 0, .nilFunc] 121) := fun X => by rw [hB, hK, List.append_assoc, List.append_assoc]; simp
  have Bs : ∀ (X : AH) r, (B ++ X).set (h.length + 1) r = B.set (h.length + 1) r ++ X := fun X r => List.set_append_left _ _ (by rw [hB, List.length_append]; omega)
  have BD : ∀ X : AH, ∃ l, B ++ X = h ++ l := fun X => by rw [hB, List.append_assoc]; exact KD _
  rw [BX, Bl]
  clear Kc Kt
  refine aIf.intro (fun hlim => ?_) (fun hlim => ?_) <;> simp (disch := omega) only [go_sem, seval]
  · have : errF G = 2 := by rw [errF, if_pos herr, if_pos hlim]
    have Bs0 : ∀ X : AH, (B ++ X).set (h.length + 1) (.row [.sl [] .full, .int .u64 0, .nilFunc] 121) = B ++ X := fun X => hset_same (Bq X)
    simp (disch := omega) only [go_sem, seval, Bq, Bs0]
    rw [if_neg (by omega), this]
    exact ⟨BD _, .nilFunc, rfl⟩
  have hpn : (pplF G).length ≤ 12 := by omega
  have herrF : errF G = 0 := by rw [errF, if_pos herr, if_neg hlim]
  have hP := ppl_lt herr
  have hpw : 2 ^ (pplF G).length ≤ 2 ^ 12 := Nat.pow_le_pow_right (by decide) hpn
  have hp1 : 1 ≤ 2 ^ (pplF G).length := Nat.one_le_two_pow
  have hw : IntKind.i64.wrap (1 * 2 ^ min (pplF G).length 64) = ((2 ^ (pplF G).length : Nat) : Int) := by
    have e : (1 * 2 ^ min (pplF G).length 64 : Int) = ((2 ^ (pplF G).length : Nat) : Int) := by rw [Nat.min_eq_left (by omega), Int.one_mul]; simp
    rw [e, IntWalk.i64_in _ ⟨by omega, by omega⟩]
  simp (disch := omega) only [go_sem, seval, Bl, BX, Bq, Bs, Bg, encI_len]
  simp only [hw, Int.toNat_natCast, zrow_bool]
  obtain ⟨N, hN⟩ : ∃ N : Nat, N = 2 ^ (pplF G).length := ⟨_, rfl⟩
  rw [← hN] at hpw hp1 ⊢
  refine ⟨by omega, by omega, by omega, by omega, ?_⟩
  obtain ⟨KW, hKW⟩ : ∃ KW : List AV → AH, ∀ c, KW c = B ++ [.row [.sl (encI (pplF G)) .free] 29, .row [evalV B.length (B.length + 1)] 142, .row c 4, .row [.ms (B.length + 2) 0 N N 1] 144] := ⟨_, fun _ => rfl⟩
  have W0 : ∀ c, (KW c)[h.length]? = some (.row [.int .i64 p, .int .i64 n, .sl (gl.map encG) .free] 54) := fun c => by rw [hKW]; exact Bg _
  have W4 : ∀ c, (KW c)[B.length]? = some (.row [.sl (encI (pplF G)) .free] 29) := fun c => by rw [hKW]; simp
  have W5 : ∀ c, (KW c)[B.length + 1]? = some (.row [evalV B.length (B.length + 1)] 142) := fun c => by rw [hKW]; simp
  have W6 : ∀ c, (KW c)[B.length + 2]? = some (.row c 4) := fun c => by rw [hKW]; simp
  have W7 : ∀ c, (KW c)[B.length + 3]? = some (.row [.ms (B.length + 2) 0 N N 1] 144) := fun c => by rw [hKW]; simp
  have WS : ∀ c c', (KW c).set (B.length + 2) (.row c' 4) = KW c' := fun c c' => by rw [hKW, hKW, hset_add]; rfl
  refine awp_loopS (α := Nat) [1, 2, 4, 5, 6, 30, 31] (fun s => [(1, .ptr (some (h.length, 0))), (2, .ptr (some (h.length + 1, 0))), (4, .ptr (some (B.length, 0))), (5, .ptr (some (B.length + 1, 0))), (6, .ptr (some (B.length + 3, 0))), (30, .int .i64 N), (31, .int .i64 s)])
    (fun s => KW (rowV G N s)) (fun s => s ≤ N) (fun s => N - s) 0 ?_ (by rw [hKW, rowV_zero]; rfl) (by omega) Ty.mixed (by kernel_rfl) ?_
  · simp (disch := omega) only [go_sem, seval]
  intro s hsN
  simp (disch := omega) only [go_sem, seval]
  refine aIf.intro (fun hs2 => ?_) (fun hs2 => ?_) <;> simp (disch := omega) only [go_sem, seval]
  · have c2 := fun l => eval_calls Γ (pplF G) s (by omega) hpn (pw_nodup hP) G (KW (rowV G N s) ++ l) B.length (B.length + 1) hs (fun q hq => (mem_ppl (checkF_right herr) q).2 hq) (by rw [hget_in _ (hget_of (W4 _))]; exact W4 _) (by rw [hget_in _ (hget_of (W5 _))]; exact W5 _)
    simp only [eG, eval_hold herr] at c2
    simp (disch := omega) only [go_sem, seval, W0, W4, W5, W6, W7, WS, evalV]
    rw [IntWalk.u64_in _ ⟨by omega, by omega⟩]
    refine aCallF.intro c2 ?_
    simp (disch := omega) only [go_sem, seval, W0, W4, W5, W6, W7, WS, rowV_len G N s (by omega)]
    refine ⟨by omega, by omega, roundS_next (s + 1) (by omega) (by omega) ?_ ?_⟩
    · simp (disch := omega) only [go_sem, seval]
    · rw [Nat.zero_add, Nat.mul_one, rowV_set G N s (by omega)]
  obtain rfl : s = N := by omega
  have hBh : h.length + 2 ≤ B.length := by rw [hB, List.length_append]; omega
  have hk : rowV G s s = knownV G := by rw [rowV, Nat.sub_self, List.replicate_zero, List.append_nil, knownV, hN]
  rw [hk]
  have hkl : (knownV G).length = s := by rw [← hk, rowV_len G s s (by omega)]
  have hfz := fz_whole (B.length + 2) s (knownV G) hkl (fun c hc => by obtain ⟨x, _, rfl⟩ := List.mem_map.1 hc; rfl)
  refine AWP.keep [1, 2, 4, 5, 6] ?_
  simp (disch := omega) only [go_sem, seval]
  refine AWP.freeze (W6 _) (Froze.row (Froze.set (W6 _)) (j := B.length + 3) (by omega) (W7 _)) ?_
  rw [show fzL (B.length + 2) (knownV G) [.ms (B.length + 2) 0 s s 1] = [.sl (knownV G) .free] from by rw [fz_cons, fz_nil, hfz]]
  have hg3 : ∀ o, (((KW (knownV G)).set (B.length + 2) .frozen).set (B.length + 3) o)[B.length + 3]? = some o := fun o => by
    rw [List.getElem?_set_self]
    rw [List.length_set, hKW]; simp
  refine AWP.freeze (hg3 _) (Froze.set (hg3 _)) ?_
  have eH : (((KW (knownV G)).set (B.length + 2) .frozen).set (B.length + 3) (.row [.sl (knownV G) .free] 144)).set (B.length + 3) .frozen = B ++ [.row [.sl (encI (pplF G)) .free] 29, .row [evalV B.length (B.length + 1)] 142, .frozen, .frozen] := by
    rw [hKW, hset_add, hset_add, hset_add]; rfl
  rw [eH]
  simp only [List.map_cons, List.map_nil]
  rw [fz_ptr (by omega), fz_ptr (by omega), fz_ptr (by omega), fz_ptr (by omega), fz_ptr (by omega), fz_ptr (by omega), fz_ptr (by omega), fz_ptr (by omega), fz_ptr (by omega), fz_ptr_self]
  rw [List.drop_zero]
  refine aCode_ok Ty.mixed _ _ _ _ (by kernel_rfl) ?_
  have hw2 : IntKind.u64.wrap (IntKind.u64.wrap (1 * 2 ^ min (pplF G).length 64) - 1) = ((2 ^ (pplF G).length - 1 : Nat) : Int) := by
    have e : (1 * 2 ^ min (pplF G).length 64 : Int) = ((2 ^ (pplF G).length : Nat) : Int) := by rw [Nat.min_eq_left (by omega), Int.one_mul]; simp
    rw [e, ← hN, show IntKind.u64.wrap (s : Int) = s from IntWalk.u64_in _ ⟨by omega, by omega⟩, IntWalk.u64_in _ ⟨by omega, by omega⟩]
    omega
  have hBl : h.length + 1 < B.length := by omega
  have Bq2 : ∀ (X : AH) r, (B.set (h.length + 1) r ++ X)[h.length + 1]? = some r := fun X r => by rw [List.getElem?_append_left (by simpa using hBl), List.getElem?_set_self hBl]
  have BD2 : ∀ (X : AH) r, ∃ l, B.set (h.length + 1) r ++ X = h ++ l := fun X r => by
    rw [hB, hK, List.append_assoc, hset_add, List.append_assoc]; exact ⟨_, rfl⟩
  simp (disch := omega) only [go_sem, seval, Bq, Bs, encI_len, Bq2]
  rw [if_pos herrF, hw2]
  refine ⟨BD2 _ _, ?_, ?_⟩
  · exact of_eq_true (rb_ask _ G)
  · rfl
end Go.Proofs.Ytelehpccfaedjaa

/- The program's question: what is known, the others, a set as a list, parts. No conditions. -/
set_option linter.unusedSimpArgs false
set_option linter.unusedVariables false
namespace Go.Proofs.Ytelehpccfaedjaa
open Go Go.Proofs Go.Abs
attribute [go_sem] rb_ask

def askF (g : Gt) : AV := .func 100 [] [.eptr [.sl (knownV g) .free]]
theorem known_len (g : Gt) : (knownV g).length = 2 ^ (pplF g).length := by simp [knownV]
theorem known_at (g : Gt) (s : Nat) (h : s < 2 ^ (pplF g).length) : (knownV g)[s]? = some (.bool (holdP g (listF (pplF g) s))) := by simp [knownV, h]
theorem pow12 {n : Nat} (h : n ≤ 12) : 2 ^ n ≤ 4096 := Nat.pow_le_pow_right (by decide) h
set_option maxRecDepth 100000 in
theorem known_calls (Γ : Nat → Option (List AV)) (g : Gt) (s : Nat) (h : AH) (hn : (pplF g).length ≤ 12) (hs : s < 2 ^ (pplF g).length) :
    ACalls Try.prog Γ 100 [.int .u64 s, .eptr [.sl (knownV g) .free]] h fun v h' => h' = h ∧ v = .bool (holdP g (listF (pplF g) s)) := by
  have e1 := known_at g s hs
  have hp := pow12 hn
  refine ACalls.drop ?_
  refine acalls_code (rs := [.tmp 3]) Try.func100 rfl rfl rfl rfl Ty.mixed (by kernel_rfl) ?_
  simp (disch := omega) only [go_sem, seval, e1]
def encU (l : List Nat) : List AV := l.map fun s : Nat => .int .u64 (s : Int)
theorem encU_len (l : List Nat) : (encU l).length = l.length := by simp [encU]
theorem encU_get (a b : List Nat) (s : Nat) : (encU (a ++ s :: b))[a.length]? = some (.int .u64 s) := by simp [encU]
theorem encU_snoc (a : List Nat) (s : Nat) : encU a ++ [.int .u64 s] = encU (a ++ [s]) := by simp [encU]
theorem loose_U (l : List Nat) : looseL (encU l) = encU l := looseL_maps _ (fun _ => by rw [loose]) l
theorem rb_U (n : Nat) (l : List Nat) : RB n (.sl (encU l) .free) = True := eq_true (.sl' fun r hr => by
  obtain ⟨i, _, rfl⟩ := List.mem_map.1 hr; exact .int _ _)
theorem rowsOK_U (l : List Nat) : RowsOK 1 (encU l) := RowsOK.map (f := fun s : Nat => AV.int .u64 s) (fun s => ⟨rfl, fun c hc => by simp [AV.cells] at hc; subst hc; rfl⟩) l
attribute [go_sem] loose_U rb_U
set_option maxRecDepth 100000 in
theorem list_calls (Γ : Nat → Option (List AV)) (g : Gt) (s : Nat) (h : AH) (hn : (pplF g).length ≤ 12) (hs : s < 2 ^ (pplF g).length) :
    ACalls Try.prog Γ 102 [qV g, .int .u64 s] h fun v h' => h' = h ∧ v = .sl (encI (listF (pplF g) s)) .free := by
  have hp := pow12 hn
  generalize hPe : pplF g = P at *
  refine ACalls.dropL ?_
  rw [qV, hPe]
  refine acalls_code (rs := [.tmp 4]) Try.func102 rfl rfl rfl rfl Ty.mixed (by kernel_rfl) ?_
  simp (disch := omega) only [go_sem, seval, encI_len]
  obtain ⟨K, hK⟩ : ∃ K : AH, K = h ++ [.row [.sl (encI P) .free, .int .u64 ((2 ^ P.length - 1 : Nat) : Int), .func 100 [] [.eptr [.sl (knownV g) .free]]] 121] := ⟨_, rfl⟩
  have KD : ∀ j : AH, ∃ l, K ++ j = h ++ l := by subst hK; intro j; exact ⟨_, List.append_assoc ..⟩
  refine awp_loopL (β := FlS) P [1, 5, 10, 11, 12] (fun don s1 => [(1, .int .u64 s), (5, .sl (encI s1.l) s1.own), (10, .sl (encI P) .free), (11, .int .i64 P.length), (12, .int .i64 don.length)])
    (fun s1 => K ++ s1.j) (fun don rest s1 => OwnAt K s1.j s1.l.length s1.own ∧ s1.l.length ≤ don.length ∧ listF P s = s1.l ++ listF rest (s / 2 ^ don.length)) ⟨[], .full, []⟩ ?_ (by simp [hK]) ⟨trivial, by simp, by simp⟩ Ty.mixed (by kernel_rfl) ?_ ?_
  · simp (disch := omega) only [go_sem, seval, encI, List.map_nil]
  · rintro don x r ⟨l, own, j⟩ hd ⟨ho, hll, hx⟩
    simp only at ho hll hx ⊢
    have hlen : P.length = don.length + 1 + r.length := by rw [hd]; simp; omega
    have e1 : (encI P)[don.length]? = some (.int .i64 x) := by rw [hd]; simp [encI]
    have hmr : s / 2 ^ don.length ≤ s := Nat.div_le_self _ _
    rw [listF, Nat.div_div_eq_div_mul, ← Nat.pow_succ] at hx
    simp (disch := omega) only [go_sem, seval, encI_len]
    refine aIf.pos (by omega) ?_
    simp (disch := omega) only [go_sem, seval, encI_len, e1]
    rw [Nat.min_eq_left (by omega), fdiv_pow, and_one_u _ (by omega)]
    refine aIf.intro (fun hbit => ?_) (fun hbit => ?_) <;> simp (disch := omega) only [go_sem, seval]
    · rw [if_pos (by omega)] at hx
      refine aAp_sl (by rw [encI_len]; exact ho) (rowsOK_I _) (rowsOK_I [x]) (by simp [encI_len]; omega) (by simp [encI_len]; omega) fun j' own' ho2 hg => ?_
      rw [encI_snoc]
      simp (disch := omega) only [go_sem, seval]
      refine roundL_next ⟨l ++ [x], own', j'⟩ ⟨?_, ?_, ?_⟩ ?_ rfl
      · simpa [encI_len] using ho2
      · simp; omega
      · rw [hx]; simp
      · simp (disch := omega) only [go_sem, seval, List.length_append]
    · rw [if_neg (by omega)] at hx
      refine roundL_next ⟨l, own, j⟩ ⟨ho, by simp; omega, ?_⟩ ?_ rfl
      · rw [hx]; simp
      · simp (disch := omega) only [go_sem, seval, List.length_append]
  · rintro ⟨l, own, j⟩ ⟨ho, hll, hx⟩
    simp only at ho hll hx ⊢
    simp (disch := omega) only [go_sem, seval, encI_len]
    refine AWP.keep [5] (aCode_ok Ty.mixed _ _ _ _ (by kernel_rfl) ?_)
    simp (disch := omega) only [go_sem, seval]
    rw [listF, List.append_nil] at hx
    rw [hx]
    exact ⟨KD _, rfl⟩
end Go.Proofs.Ytelehpccfaedjaa

/- The program's smallest sets. No conditions. -/
set_option linter.unusedSimpArgs false
set_option linter.unusedVariables false
namespace Go.Proofs.Ytelehpccfaedjaa
open Go Go.Proofs Go.Abs

def smlV (g : Gt) (fv : AV) : AV := .func 124 [] [.eptr [.sl (encI (pplF g)) .free, .int .u64 ((2 ^ (pplF g).length - 1 : Nat) : Int), askF g], .eptr [fv]]
theorem fz_known (i : Nat) (cs : List AV) (g : Gt) : fzL i cs (knownV g) = knownV g := fzL_maps _ (fun _ => rfl) _
theorem fz_ask (i : Nat) (cs : List AV) (g : Gt) : fzV i cs (.func 100 [] [.eptr [.sl (knownV g) .free]]) = .func 100 [] [.eptr [.sl (knownV g) .free]] := rfl
/-- A condition on sets that a function's value says. -/
structure FineV (g : Gt) (fine : List Int → Bool) (fn : FuncId) (fs cs : List AV) : Prop where
  calls : ∀ (Γ : Nat → Option (List AV)) (s : Nat) (h : AH), s < 2 ^ (pplF g).length → ACalls Try.prog Γ fn (fs ++ .int .u64 s :: cs) h fun v h' => h' = h ∧ v = .bool (fine (listF (pplF g) s))
  fz : ∀ i c, fzL i c fs = fs ∧ fzL i c cs = cs
  loose : Abs.loose (.func fn fs cs) = .func fn fs cs
  rb : ∀ n, RB n (.func fn fs cs)
theorem fine_ask {g : Gt} (hn : (pplF g).length ≤ 12) : FineV g (holdP g) 100 [] [.eptr [.sl (knownV g) .free]] :=
  ⟨fun Γ s h hs => known_calls Γ g s h hn hs, fun _ _ => ⟨rfl, rfl⟩, rfl, fun n => of_eq_true (rb_ask n g)⟩
set_option maxRecDepth 100000 in
theorem smallest_calls (Γ : Nat → Option (List AV)) (g : Gt) (fine : List Int → Bool) (fn : FuncId) (fs cs : List AV) (h : AH) (hf : FineV g fine fn fs cs) :
    ACalls Try.prog Γ 101 [qV g, .func fn fs cs] h fun v h' => h' = h ∧ v = smlV g (.func fn fs cs) := by
  refine ACalls.dropL ?_
  refine ACalls.freeze ?_
  refine ACalls.freeze ?_
  rw [qV]
  refine acalls_code (rs := [.tmp 4]) Try.func101 rfl rfl rfl rfl Ty.mixed (by kernel_rfl) ?_
  simp (disch := omega) only [go_sem, seval]
  have e1 : ∀ a b : AObj, (h ++ [a, b])[h.length]? = some a := fun a b => by simp
  have e2 : ∀ a b : AObj, ((h ++ [a, b]).set h.length .frozen)[h.length + 1]? = some b := fun a b => by rw [List.getElem?_set_ne (by omega)]; simp
  have e4 : ∀ a b : AObj, ∃ l, ((h ++ [a, b]).set h.length .frozen).set (h.length + 1) .frozen = h ++ l := fun a b => ⟨[.frozen, .frozen], by
    have : h.length = h.length + 0 := rfl
    rw [this, hset_add, Nat.add_zero, hset_add]; rfl⟩
  refine ⟨h.length, _, _, _, e1 _ _, Froze.set (e1 _ _), h.length + 1, _, _, _, e2 _ _, Froze.set (e2 _ _), e4 _ _, ?_, ?_⟩
  · simp only [fzV, fzL, if_true, List.drop_zero]
    rw [if_neg (by omega)]
    simp only [fzV, fzL, if_true, List.drop_zero, loose]
    exact .func (RBs.nil _) (RBs.cons (.eptr (RBs.cons (of_eq_true (rb_I _ _)) (RBs.cons (.int _ _) (RBs.cons (of_eq_true (rb_ask _ g)) (RBs.nil _))))) (RBs.cons (.eptr (RBs.cons (hf.rb _) (RBs.nil _))) (RBs.nil _)))
  · simp only [fzV, fzL, if_true, List.drop_zero]
    rw [if_neg (by omega)]
    simp only [fzV, fzL, if_true, List.drop_zero, loose]
    rfl
/-- What the inner loop has found. -/
def lstF (P : List Int) (fine : List Int → Bool) (s k : Nat) : Bool := fine (listF P s) && (List.range k).all fun i => !s.testBit i || !fine (listF P (andNot s (2 ^ i)))
theorem lst_succ (P : List Int) (fine : List Int → Bool) (s k : Nat) : lstF P fine s (k + 1) = (lstF P fine s k && (!s.testBit k || !fine (listF P (andNot s (2 ^ k))))) := by
  rw [lstF, lstF, List.range_succ, List.all_append, Bool.and_assoc]
  simp
theorem lst_least (P : List Int) (fine : List Int → Bool) (s : Nat) : lstF P fine s P.length = leastF P fine s := rfl
theorem bit_shift (s k : Nat) : (s / 2 ^ k % 2 = 0) ↔ s.testBit k = false := by
  have h := bit_at s k
  have h2 := Nat.mod_two_eq_zero_or_one (s / 2 ^ k)
  cases hb : s.testBit k with
  | true => rw [hb] at h; have := h.2 rfl; simp [this]
  | false => rw [hb] at h; rcases h2 with h2 | h2; · simp [h2]
             exact absurd (h.1 h2) (by simp)
theorem clr_bits (s i : Nat) (hs : s < 4096) (hi : i < 12) : bitsOp .andNot .u64 (s : Int) ((2 ^ i : Nat) : Int) = (andNot s (2 ^ i) : Nat) := by
  have hle := andNot_le s (2 ^ i) (by omega)
  show IntKind.u64.wrap ((BitVec.ofInt 64 (s : Int) &&& ~~~ BitVec.ofInt 64 ((2 ^ i : Nat) : Int)).toNat : Int) = _
  rw [BitVec.ofInt_natCast, BitVec.ofInt_natCast]
  show IntKind.u64.wrap ((andNot s (2 ^ i) : Nat) : Int) = _
  exact IntWalk.u64_in _ ⟨by omega, by omega⟩
/-! ### A list of one's own in which there are no loops -/
def NoLp (j : AH) : Prop := ∀ ob ∈ j, ∀ st pe li, ob ≠ .loop st pe li
theorem NoLp.set {j : AH} (h : NoLp j) (q : Nat) (cs : List AV) (T : TypeId) : NoLp (j.set q (.row cs T)) := fun ob ho st pe li e => by
  rcases List.mem_or_eq_of_mem_set ho with ho | rfl
  · exact h ob ho st pe li e
  · cases e
theorem NoLp.snoc {j : AH} (h : NoLp j) (cs : List AV) (T : TypeId) : NoLp (j ++ [.row cs T]) := fun ob ho st pe li e => by
  rcases List.mem_append.1 ho with ho | ho
  · exact h ob ho st pe li e
  · rw [List.mem_singleton] at ho; subst ho; cases e
theorem aApM_noLp {v x : AV} {xs ys : List AV} {h j : AH} {T : TypeId} {by_ : Nat} {z : List AV} {Q : AV → AH → Prop} (hv : OwnM h.length j T v xs) (hj : NoLp j) (hs : SrcIs x (h ++ j) ys) (hx : RowsOK 1 ys) (hf : flat ys = ys) (hne : ys ≠ [])
    (h63 : xs.length + ys.length ≤ 9223372036854775807) (hby : (xs.length + ys.length) * by_ ≤ 140737488355328) (H : ∀ v' j', OwnM h.length j' T v' (xs ++ ys) → NoLp j' → Q v' (h ++ j')) : aApM (some (1, by_, z, T)) v x (h ++ j) Q := by
  refine ⟨ys, hs, hx, ?_⟩
  rcases hv with ⟨rfl, rfl⟩ | ⟨q, c, pad, rfl, h2, h3, h4⟩
  · refine ⟨by simpa using h63, by simpa using hby, fun e => absurd e hne, fun _ c hc => ?_⟩
    rw [hf, List.append_assoc]
    have := H (.ms (h ++ j).length 0 ys.length c 1) (j ++ [.row (ys ++ List.replicate ((c - ys.length) * 1) .top) T]) (.inr ⟨j.length, c, List.replicate (c - ys.length) .top, by simp, by simp, by simp; omega, fun a ha => by rw [List.eq_of_mem_replicate ha]; rfl⟩) (hj.snoc _ _)
    simpa using this
  · have hq := (List.getElem?_eq_some_iff.1 h2).1
    have hg : (h ++ j)[h.length + q]? = some (.row (xs ++ pad) T) := by rw [hget_add]; exact h2
    refine ⟨rfl, h63, hby, by omega, ?_⟩
    rw [hg]
    refine ⟨by simp; omega, fun hle => ?_, fun hlt c' hc' => ?_⟩
    · have := H (.ms (h.length + q) 0 (xs.length + ys.length) c 1) (j.set q (.row (xs ++ ys ++ pad.drop ys.length) T)) (.inr ⟨q, c, pad.drop ys.length, by simp, by simp [hq], by simp; omega, fun a ha => h4 a (List.mem_of_mem_drop ha)⟩) (hj.set _ _ _)
      rw [hset_add, hf]
      rw [show splice (xs ++ pad) (0 + xs.length * 1) ys = xs ++ ys ++ pad.drop ys.length from splice_app (by omega)]
      exact this
    · have := H (.ms (h ++ j).length 0 (xs.length + ys.length) c' 1) (j ++ [.row (xs ++ ys ++ List.replicate ((c' - (xs.length + ys.length)) * 1) .top) T]) (.inr ⟨j.length, c', List.replicate (c' - (xs.length + ys.length)) .top, by simp, by simp, by simp; omega, fun a ha => by rw [List.eq_of_mem_replicate ha]; rfl⟩) (hj.snoc _ _)
      rw [hf]
      simpa using this
theorem noLp_mid {h X : AH} (hX : NoLp X) (Y : AH) (i : Nat) (ob : AObj) (e : (h ++ X)[i]? = some ob) : (h ++ Y)[i]? = some ob ∨ ∀ (st : LoopState) (pe : Option Code) (li : LI), ¬ ob = .loop st pe li := by
  by_cases hi : i < h.length
  · rw [List.getElem?_append_left hi] at e ⊢; exact .inl e
  · rw [List.getElem?_append_right (by omega)] at e
    exact .inr fun st pe li => hX ob (List.mem_of_getElem? e) st pe li
theorem flat_II (l : List (List Int)) : flat (encII l) = encII l := by
  induction l with
  | nil => rfl
  | cons x l ih =>
    have : flat (AV.sl (encI x) .free :: encII l) = AV.sl (encI x) .free :: flat (encII l) := rfl
    rw [show encII (x :: l) = .sl (encI x) .free :: encII l from rfl, this, ih]
theorem yld_le (P : List Int) (fine : List Int → Bool) (n : Nat) : (yldF P fine n).length ≤ n := by
  rw [yldF, List.length_map]
  have := List.length_filter_le (leastF P fine) (List.range n)
  simpa using this
/-! ### Sorting nothing -/
set_option maxRecDepth 100000 in
theorem isortf0_calls (Γ : Nat → Option (List AV)) (o : Abs.Own) (fv : AV) (h : AH) :
    ACalls Try.prog Γ 141 [.sl [] o, .int .i64 0, .int .i64 0, fv] h fun v h' => h' = h := by
  refine acalls_code (rs := []) Try.func141 rfl rfl rfl rfl Ty.mixed (by kernel_rfl) ?_
  simp (disch := omega) only [go_sem, seval]
  refine awp_loopS (α := Unit) [2, 8] (fun s => [(2, .int .i64 0), (8, .int .i64 1)]) (fun s => h) (fun s => True) (fun _ => 0) () ?_ rfl trivial Ty.mixed (by kernel_rfl) ?_
  · simp (disch := omega) only [go_sem, seval]
  rintro _ _
  simp (disch := omega) only [go_sem, seval]
  first | (refine AWP.keep [] (aCode_ok Ty.mixed _ _ _ _ (by kernel_rfl) ?_); simp (disch := omega) only [go_sem, seval]) | skip
set_option maxRecDepth 100000 in
theorem pdqf0_calls (Γ : Nat → Option (List AV)) (o : Abs.Own) (fv : AV) (m : Int) (h : AH) :
    ACalls Try.prog Γ 125 [.sl [] o, .int .i64 0, .int .i64 0, .int .i64 m, fv] h fun v h' => h' = h := by
  refine acalls_code (rs := []) Try.func125 rfl rfl rfl rfl Ty.mixed (by kernel_rfl) ?_
  simp (disch := omega) only [go_sem, seval]
  refine awp_loopS (α := Unit) [0, 1, 2, 3, 4, 10, 11] (fun _ => [(0, .sl [] o), (1, .int .i64 0), (2, .int .i64 0), (3, .int .i64 m), (4, fv), (10, .bool true), (11, .bool true)])
    (fun _ => h) (fun _ => True) (fun _ => 0) () ?_ rfl trivial Ty.mixed (by kernel_rfl) ?_
  · simp (disch := omega) only [go_sem, seval]
  rintro _ _
  simp (disch := omega) only [go_sem, seval]
  refine ACalls.then (isortf0_calls Γ o fv _) ?_
  rintro _ _ rfl
  simp (disch := omega) only [go_sem, seval]
set_option maxRecDepth 100000 in
theorem sortf0_calls (Γ : Nat → Option (List AV)) (o : Abs.Own) (fv : AV) (h : AH) :
    ACalls Try.prog Γ 103 [.sl [] o, fv] h fun v h' => h' = h := by
  refine acalls_code (rs := []) Try.func103 rfl rfl rfl rfl Ty.mixed (by kernel_rfl) ?_
  simp (disch := omega) only [go_sem, seval]
  rw [IntWalk.u64_in _ ⟨by omega, by omega⟩]
  refine ACalls.then (len_calls Γ _ _ (by omega) (by omega)) ?_
  rintro _ _ ⟨rfl, m, rfl⟩
  simp (disch := omega) only [go_sem, seval]
  refine ACalls.then (pdqf0_calls Γ o fv m _) ?_
  rintro _ _ rfl
  simp (disch := omega) only [go_sem, seval]
theorem fz_ownII (i c : Nat) (l : List (List Int)) (pad : List AV) (hc : l.length ≤ c) (hp : ∀ a ∈ pad, a.isAgg = false) : fzV i (encII l ++ pad) (.ms i 0 l.length c 1) = .sl (encII l) .free := by
  rw [fzV, if_pos, List.drop_zero, rowsOf_one _ _ (by simp [encII_len]), List.take_append_of_le_length (by simp [encII_len]), ← encII_len l, List.take_length]
  refine ⟨rfl, ?_⟩
  simp only [fzOK, Bool.and_eq_true, decide_eq_true_eq, bne_iff_ne, List.all_eq_true, Bool.not_eq_true', List.length_append, encII_len]
  refine ⟨⟨⟨by omega, hc⟩, by decide⟩, fun a ha => ?_⟩
  rcases List.mem_append.1 ha with ha | ha
  · obtain ⟨x, _, rfl⟩ := List.mem_map.1 ha; rfl
  · exact hp a ha
structure YlS where
  s : Nat
  v : AV
  j : AH
set_option maxRecDepth 100000 in
theorem all_calls24 (Γ : Nat → Option (List AV)) (g : Gt) (fine : List Int → Bool) (fn : FuncId) (fs cs : List AV) (h : AH) (hck : checkF g = 0) (hn : (pplF g).length ≤ 12) (hm : Mono (pplF g) fine) (hf : FineV g fine fn fs cs) :
    ACalls Try.prog Γ 72 [qV g, .func fn fs cs] h fun v h' => h' = h ∧ v = .tuple [.sl (encII (if 256 < (minsF (pplF g) fine).length then [] else minsF (pplF g) fine)) .free, .int .i64 (if 256 < (minsF (pplF g) fine).length then 2 else 0)] := by
  have hP := ppl_lt hck
  have hp := pow12 hn
  have hp1 : 1 ≤ 2 ^ (pplF g).length := Nat.one_le_two_pow
  have c1 := fun h => smallest_calls Γ g fine fn fs cs h hf
  have c2 := fun s h hs => list_calls Γ g s h hn hs
  refine ACalls.endM ?_
  rw [qV] at c1 c2 ⊢
  obtain ⟨N, hN⟩ : ∃ N : Nat, N = 2 ^ (pplF g).length := ⟨_, rfl⟩
  rw [smlV, askF] at c1
  rw [← hN] at c1 c2 hp hp1 ⊢
  refine acalls_codeM (rs := [.cell 4 55, .tmp 5]) Try.func72 rfl rfl rfl rfl rfl Ty.mixed (by kernel_rfl) ?_
  simp (disch := omega) only [go_sem, seval]
  refine ACalls.det (c1 _) ?_
  simp (disch := omega) only [go_sem, seval]
  refine AWP.keep [2, 4, 5, 9, 1000000] ?_
  simp (disch := omega) only [go_sem, seval]
  refine awp_rangeFuncKL rfl (fun li hli => ?_)
  simp (disch := omega) only [go_sem, seval]
  obtain ⟨QR, hQR⟩ : ∃ QR : AObj, QR = .row [.sl (encI (pplF g)) .free, .int .u64 ((N - 1 : Nat) : Int), .func 100 [] [.eptr [.sl (knownV g) .free]]] 121 := ⟨_, rfl⟩
  obtain ⟨K, hK⟩ : ∃ K : AV → AObj → AH, K = fun v lo => h ++ [QR, .row [v] 55, lo] := ⟨_, rfl⟩
  have Klen : ∀ v lo, (K v lo).length = h.length + 3 := by subst hK; simp
  have Kq : ∀ v lo j, (K v lo ++ j)[h.length]? = some (.row [.sl (encI (pplF g)) .free, .int .u64 ((N - 1 : Nat) : Int), .func 100 [] [.eptr [.sl (knownV g) .free]]] 121) := by subst hK hQR; simp
  have Kv : ∀ v lo j, (K v lo ++ j)[h.length + 1]? = some (.row [v] 55) := by subst hK; simp
  have Kl : ∀ v lo j, (K v lo ++ j)[h.length + 2]? = some lo := by subst hK; simp
  have Sv : ∀ v lo j v', (K v lo ++ j).set (h.length + 1) (.row [v'] 55) = K v' lo ++ j := by subst hK; simp
  have Sl : ∀ v lo j lo', (K v lo ++ j).set (h.length + 2) lo' = K v lo' ++ j := by subst hK; simp
  rw [← hQR]
  refine ACalls.heap (h1 := K (.sl [] .full) (.loop .ready none li) ++ []) ?_ (by subst hK; simp)
  refine acalls_code (rs := []) Try.func124 rfl rfl rfl rfl Ty.mixed (by kernel_rfl) ?_
  simp (disch := omega) only [go_sem, seval]
  refine awp_loopS (α := YlS) [0, 1, 2, 4] (fun x => [(0, .yield (h.length + 2)), (1, .eptr [.sl (encI (pplF g)) .free, .int .u64 ((N - 1 : Nat) : Int), .func 100 [] [.eptr [.sl (knownV g) .free]]]), (2, .eptr [.func fn fs cs]), (4, .int .u64 x.s)])
    (fun x => K x.v (.loop .ready none li) ++ x.j) (fun x => x.s ≤ N ∧ OwnM (h.length + 3) x.j 29 x.v (encII (yldF (pplF g) fine x.s)) ∧ NoLp x.j) (fun x => N - x.s) ⟨0, .sl [] .full, []⟩ ?_ (by simp) ⟨by simp, .inl ⟨rfl, rfl⟩, fun _ h => by simp at h⟩ Ty.mixed (by kernel_rfl) ?_
  · simp (disch := omega) only [go_sem, seval]
  rintro ⟨s, v, j⟩ ⟨hs, hv, hj⟩
  simp only at hs hv hj ⊢
  simp (disch := omega) only [go_sem, seval]
  refine aIf.intro (fun hs2 => ?_) (fun hs2 => ?_) <;> simp (disch := omega) only [go_sem, seval]
  rotate_left
  · obtain rfl : s = N := by omega
    have hX : NoLp ([QR, .row [v] 55, .dead] ++ j) := fun ob ho st pe li e => by
      rcases List.mem_append.1 ho with ho | ho
      · simp only [List.mem_cons, List.not_mem_nil, or_false] at ho
        rcases ho with rfl | rfl | rfl
        · rw [hQR] at e; cases e
        · cases e
        · cases e
      · exact hj ob ho st pe li e
    refine ⟨h ++ [QR, .row [v] 55], .ready, none, j, by subst hK; simp, by simp, fun i ob e => ?_, by simp, ?_⟩
    · refine noLp_mid hX _ i ob ?_
      simpa using e
    rw [afterLoop_none]
    have eK : h ++ [QR, .row [v] 55] ++ .dead :: j = K v .dead ++ j := by subst hK; simp
    rw [eK]
    simp (disch := omega) only [go_sem, seval]
    have hml : (yldF (pplF g) fine s).length = (minsF (pplF g) fine).length := by rw [hN]; exact yld_len hP hn hm
    have hyle := yld_le (pplF g) fine s
    have KD : ∀ v lo j, ∃ l, K v lo ++ j = h ++ l := by subst hK; intro v lo j; exact ⟨_, List.append_assoc ..⟩
    rcases hv with ⟨rfl, h0⟩ | ⟨q, c, pad, rfl, h2, h3, h4⟩
    · have hl0 : (minsF (pplF g) fine).length = 0 := by rw [← hml, ← encII_len, h0]; rfl
      have hnil : minsF (pplF g) fine = [] := List.length_eq_zero_iff.1 hl0
      refine AWP.keep [2, 4, 5] (aCode_ok Ty.mixed _ _ _ _ (by kernel_rfl) ?_)
      simp (disch := omega) only [go_sem, seval, Kv, List.length_nil]
      refine ACalls.then (sortf0_calls Γ _ _ _) ?_
      rintro _ _ rfl
      simp (disch := omega) only [go_sem, seval, Kv, Sv]
      rw [hnil]
      exact ⟨KD _ _ _, .inl rfl⟩
    · rw [encII_len] at h3 ⊢
      refine AWP.keep [2, 4, 5] (aCode_ok Ty.mixed _ _ _ _ (by kernel_rfl) ?_)
      simp (disch := omega) only [go_sem, seval, Kv, encII_len]
      refine aIf.intro (fun hbig => ?_) (fun hbig => ?_) <;> simp (disch := omega) only [go_sem, seval]
      · simp (disch := omega) only [go_sem, seval, Kv, Sv]
        rw [if_pos (by omega), if_pos (by omega)]
        exact ⟨KD _ _ _, .inl rfl⟩
      simp (disch := omega) only [go_sem, seval, Kv, encII_len]
      have hg : ∀ u, (K u .dead ++ j)[h.length + 3 + q]? = some (.row (encII (yldF (pplF g) fine s) ++ pad) 29) := fun u => by rw [← Klen u .dead, hget_add]; exact h2
      have hgs : ∀ u r, (K u .dead ++ j).set (h.length + 3 + q) r = K u .dead ++ j.set q r := fun u r => by rw [← Klen u .dead, hset_add]
      refine ACalls.then (sortFunc_calls Γ (h.length + 3 + q) c 29 (yldF (pplF g) fine s) pad _ (hg _) (by omega) (fun x hx => ?_)) ?_
      · obtain ⟨m, _, rfl⟩ := List.mem_map.1 hx
        have := (listF_sub (pplF g) m).length_le
        omega
      rintro _ _ ⟨rfl, xs', p1, p2, rfl⟩
      rw [hgs]
      have hxs : xs' = minsF (pplF g) fine := yld_mins hP hn hm (by rw [← hN]; exact p1) p2
      simp (disch := omega) only [go_sem, seval, Kv, Sv]
      rw [if_neg (by omega), if_neg (by omega), ← hxs]
      have hxl : (yldF (pplF g) fine s).length = xs'.length := p1.length_eq.symm
      refine ⟨KD _ _ _, .inr ⟨3 + q, encII xs' ++ pad, 29, ?_, ?_⟩⟩
      · have hge : ∀ u r, (K u .dead ++ j.set q r)[h.length + (3 + q)]? = some r := fun u r => by
          rw [← Nat.add_assoc, ← Klen u .dead, hget_add, List.getElem?_set_self (List.getElem?_eq_some_iff.1 h2).1]
        exact hge _ _
      · rw [← Nat.add_assoc, hxl, fz_tuple, fz_cons, fz_cons, fz_nil, fz_ownII _ _ _ _ (by omega) h4, fz_int]
        simp only [loose, looseL, loose_II]
        exact ⟨RB.tuple' (RBs.cons (of_eq_true (rb_II _ _)) (RBs.cons (.int _ _) (RBs.nil _))), trivial⟩
  have hsN : s < N := by omega
  have cf := fun h => hf.calls Γ s h (by omega)
  refine ACalls.det ((cf _).args (by simp)) ?_
  simp (disch := omega) only [go_sem, seval, encI_len]
  refine awp_loopS (α := Nat) [0, 1, 2, 4, 5, 18, 19] (fun i => [(0, .yield (h.length + 2)), (1, .eptr [.sl (encI (pplF g)) .free, .int .u64 ((N - 1 : Nat) : Int), .func 100 [] [.eptr [.sl (knownV g) .free]]]), (2, .eptr [.func fn fs cs]), (4, .int .u64 s), (5, .bool (lstF (pplF g) fine s i)), (18, .int .i64 (pplF g).length), (19, .int .i64 i)])
    (fun _ => K v (.loop .ready none li) ++ j) (fun i => i ≤ (pplF g).length) (fun i => (pplF g).length - i) 0 ?_ rfl (by simp) Ty.mixed (by kernel_rfl) ?_
  · simp (disch := omega) only [go_sem, seval]
    simp [lstF]
  · intro i hi
    have hls := lst_succ (pplF g) fine s i
    generalize hbl : lstF (pplF g) fine s i = b at hls ⊢
    simp (disch := omega) only [go_sem, seval]
    refine aIf.intro (fun hi2 => ?_) (fun hi2 => ?_) <;> simp (disch := omega) only [go_sem, seval]
    · have hi3 : i < (pplF g).length := by omega
      have hsi : s / 2 ^ i ≤ s := Nat.div_le_self _ _
      have hle := andNot_le s (2 ^ i) (by omega)
      have cg := fun h => hf.calls Γ (andNot s (2 ^ i)) h (by omega)
      have hshl : IntKind.u64.wrap (1 * 2 ^ min i 64) = ((2 ^ i : Nat) : Int) := by
        have e : (1 * 2 ^ min i 64 : Int) = ((2 ^ i : Nat) : Int) := by rw [Nat.min_eq_left (by omega), Int.one_mul]; simp
        have := pow12 (n := i) (by omega)
        rw [e]
        generalize (2 ^ i : Nat) = M at this ⊢
        exact IntWalk.u64_in _ ⟨by omega, by omega⟩
      have hshr : bitsOp .and .u64 ((s : Int).fdiv (2 ^ min i 64)) 1 = (s / 2 ^ i % 2 : Nat) := by
        rw [Nat.min_eq_left (by omega), fdiv_pow, and_one_u _ (by omega)]
      cases b with
      | false =>
        simp (disch := omega) only [go_sem, seval]
        refine roundS_next (i + 1) (by omega) (by omega) ?_ rfl
        simp (disch := omega) only [go_sem, seval, hls, Bool.false_and]
      | true =>
        simp (disch := omega) only [go_sem, seval]
        rw [hshr]
        refine aIf.intro (fun hbit => ?_) (fun hbit => ?_)
        · have hbit : s.testBit i = false := (bit_shift s i).1 (by omega)
          simp (disch := omega) only [go_sem, seval]
          refine roundS_next (i + 1) (by omega) (by omega) ?_ rfl
          simp (disch := omega) only [go_sem, seval, hls, hbit, Bool.not_false, Bool.true_or, Bool.and_self]
        · have hbit : s.testBit i = true := by
            cases hb : s.testBit i with
            | true => rfl
            | false => exact absurd (by exact_mod_cast (bit_shift s i).2 hb) hbit
          simp (disch := omega) only [go_sem, seval]
          rw [hshl, clr_bits s i (by omega) (by omega)]
          refine aCallF.intro (fun _ => (cg _).args (by simp)) ?_
          simp (disch := omega) only [go_sem, seval]
          refine roundS_next (i + 1) (by omega) (by omega) ?_ rfl
          simp (disch := omega) only [go_sem, seval, hls, hbit, Bool.not_true, Bool.false_or, Bool.true_and]
    obtain rfl : i = (pplF g).length := by omega
    rw [lst_least] at hbl
    refine AWP.keep [0, 1, 2, 4, 5] (aCode_ok Ty.mixed _ _ _ _ (by kernel_rfl) ?_)
    simp (disch := omega) only [go_sem, seval]
    have hwr : IntKind.u64.wrap ((s : Int) + 1) = ((s + 1 : Nat) : Int) := IntWalk.u64_in _ ⟨by omega, by omega⟩
    have hyl := yld_succ (pplF g) fine s
    rw [hbl] at hyl
    cases b with
    | false =>
      simp (disch := omega) only [go_sem, seval]
      refine AWP.keep [0, 1, 2, 4] (aCode_ok Ty.mixed _ _ _ _ (by kernel_rfl) ?_)
      simp (disch := omega) only [go_sem, seval]
      refine roundS_next ⟨s + 1, v, j⟩ (by simp only; omega) ⟨by simp only; omega, ?_, hj⟩ ?_ rfl
      · simp only
        rw [hyl, if_neg (by simp), List.append_nil]; exact hv
      · simp (disch := omega) only [go_sem, seval, hwr]
    | true =>
      simp (disch := omega) only [go_sem, seval]
      have hyle := yld_le (pplF g) fine s
      refine ayield_W hli (Kl _ _ _) rfl rfl Ty.mixed (by kernel_rfl) ?_
      simp (disch := omega) only [go_sem, seval, Kl, Sl]
      refine awp_block (awp_any_of [[0, 1, 2, 3, 4, 5, 6], [0, 2, 1, 3, 4, 5, 6], [1, 0, 2, 3, 4, 5, 6], [1, 2, 0, 3, 4, 5, 6], [1, 2, 3, 0, 4, 5, 6], [1, 2, 3, 4, 0, 5, 6], [2, 0, 1, 3, 4, 5, 6], [2, 1, 0, 3, 4, 5, 6], [2, 1, 3, 0, 4, 5, 6], [2, 1, 3, 4, 0, 5, 6]] (by kernel_rfl) Ty.mixed (by kernel_rfl) ?_)
      intro o ho
      simp only [List.mem_cons, List.not_mem_nil, or_false] at ho
      rcases ho with rfl | rfl | rfl | rfl | rfl | rfl | rfl | rfl | rfl | rfl
      all_goals simp only [List.filterMap_cons, List.filterMap_nil, List.getElem?_toArray, List.getElem?_cons_zero, List.getElem?_cons_succ]
      all_goals
        simp (disch := omega) only [go_sem, seval, Kv, Kq, Kl]
        refine ACalls.det (c2 s _ hsN) ?_
        simp (disch := omega) only [go_sem, seval, Kv, Kq, Kl]
        refine ⟨by omega, rfl, by simp [AV.cells, AV.one], ?_⟩
        simp (disch := omega) only [go_sem, seval, Kv, Kq, Kl, List.append_assoc, List.length_append]
        refine aApM_noLp (xs := encII (yldF (pplF g) fine s)) (ys := encII [listF (pplF g) s]) (by rw [Klen]; exact hv.more _) (hj.snoc _ _) ⟨[.sl (encI (listF (pplF g) s)) .free], 29, ?_, rfl, by simp, by simp [AV.one], rfl⟩ (rowsOK_II _) (flat_II _) (by simp [encII]) ?_ ?_ fun v' j' hv' hj' => ?_
        · rw [hget_add]; simp [flat, AV.cells]
        · simp only [encII_len, List.length_cons, List.length_nil]; omega
        · simp only [encII_len, List.length_cons, List.length_nil]; omega
        have hvc : v'.cells = [v'] := by rcases hv' with ⟨rfl, _⟩ | ⟨_, _, _, rfl, _⟩ <;> rfl
        have hvg : v'.good = true := by rcases hv' with ⟨rfl, _⟩ | ⟨_, _, _, rfl, _⟩ <;> rfl
        simp (disch := omega) only [go_sem, seval, Kv, Kl, Sv, Sl, hvc, hvg, splice]
        refine AWP.keep [0, 1, 2, 4] (aCode_ok Ty.mixed _ _ _ _ (by kernel_rfl) ?_)
        simp (disch := omega) only [go_sem, seval]
        refine roundS_next ⟨s + 1, v', j'⟩ (by simp only; omega) ⟨by simp only; omega, ?_, hj'⟩ ?_ rfl
        · simp only
          rw [hyl, if_pos rfl, encII_app, ← Klen v (.loop .busy none li)]; exact hv'
        · simp (disch := omega) only [go_sem, seval, hwr]
end Go.Proofs.Ytelehpccfaedjaa
