/- Texts joined: PolK, PolL, PolM. No conditions. -/
import Derived.Test.YtjdhgaflenhljaaGreatDoorMrEB
import Derived.Lib.Bytealg
import Derived.WalkKit
import Derived.Lib.Walk
import Derived.Test.YtjdhgaflenhljaaGreatDoorMrAAZ
/- A byte's place in a text: what the library hands back. No conditions. -/
set_option linter.unusedSimpArgs false
set_option linter.unusedVariables false
namespace Go.Proofs.YtjdhgaflenhljaaGreatDoor
open Go Go.Proofs Go.Abs Go.RowKit

set_option maxHeartbeats 1000000 in
set_option maxRecDepth 100000 in
theorem ib_run (s : ByteArray) (c : Int) (w : World) :
    Calls Tryz.prog 104 #[.string s, .int .u8 c] w fun e w' => e = .returned (.int .i64 (Lib.indexByte s.data.toList c.toNat.toUInt8)) ∧ w' = w := by
  go_enter Tryz.func104, Tryz.ntmps104
  go_wp2
  rw [run_callFunc_extern Tryz.func105 (by kernel_rfl) (by kernel_rfl) (by kernel_rfl) (e := Extern.BytealgIndexByte.indexByte) (by kernel_rfl), Lib.run_indexByteString]
  simp only [Result.andThen]
  rw [Oper.upon_value]
  go_wp2
  go_ret
  exact ⟨rfl, rfl⟩
theorem il_calls (Γ : Nat → Option (List AV)) (s : ByteArray) (c : Int) (h : AH) : ACalls Tryz.prog Γ 104 [.str s, .int .u8 c] h fun v h' => h' = h ∧ v = .int .i64 (Lib.indexByte s.data.toList c.toNat.toUInt8) := by
  refine ⟨fun vs w => enters_ok Tryz.func104 rfl rfl vs w, fun G w vs hI hv => ?_⟩
  have hvs : vs = #[.string s, .int .u8 c] := by
    obtain ⟨hl, hv⟩ := hv
    have h0 := hv 0 _ rfl
    have h1 := hv 1 _ rfl
    obtain ⟨l⟩ := vs
    simp only [List.length_cons, List.length_nil, List.size_toArray] at hl
    match l, hl with
    | [a, b], _ =>
      have h0 : VR G (.str s) a := h0
      have h1 : VR G (.int .u8 c) b := h1
      cases h0; cases h1; rfl
  subst hvs
  refine Calls.mono (ib_run s c w) fun e w' he => ?_
  obtain ⟨rfl, rfl⟩ := he
  exact ⟨_, G, _, h, rfl, Gh.le.refl G, hI, .int _ _, rfl, rfl⟩
set_option maxRecDepth 100000 in
theorem ib_calls (Γ : Nat → Option (List AV)) (s : ByteArray) (c : Int) (h : AH) : ACalls Tryz.prog Γ 102 [.str s, .int .u8 c] h fun v h' => h' = h ∧ v = .int .i64 (Lib.indexByte s.data.toList c.toNat.toUInt8) := by
  refine ACalls.drop ?_
  refine acalls_code (rs := [.tmp 4]) Tryz.func102 rfl rfl rfl rfl Ty.mixed (by kernel_rfl) ?_
  simp (disch := omega) only [go_sem, seval]
  refine ACalls.det (il_calls Γ s c _) ?_
  simp (disch := omega) only [go_sem, seval]
end Go.Proofs.YtjdhgaflenhljaaGreatDoor

/- The program's names: class, lex.Name, isFree. No conditions. -/
set_option linter.unusedSimpArgs false
set_option linter.unusedVariables false
namespace Go.Proofs.YtjdhgaflenhljaaGreatDoor
open Go Go.Proofs Go.Abs

def blankB (b : UInt8) : Bool := decide (b.toNat = 32 ∨ b.toNat = 9 ∨ b.toNat = 10 ∨ b.toNat = 13)
def signsA : ByteArray := ⟨#[123, 125, 40, 41, 59, 44, 61, 58, 46, 60, 62, 33, 43, 45, 42, 47]⟩
def classF (b : UInt8) : Int :=
  if letterB b = true then 2 else if figB b = true then 3 else if b.toNat = 95 then 5 else if blankB b = true then 1 else if 0 ≤ Lib.indexByte signsA.data.toList b.toNat.toUInt8 then 4 else 0
set_option maxRecDepth 100000 in
theorem class_calls (Γ : Nat → Option (List AV)) (b : UInt8) (h : AH) : ACalls Tryz.prog Γ 99 [.int .u8 b.toNat] h fun v h' => h' = h ∧ v = .int .i64 (classF b) := by
  refine ACalls.drop ?_
  refine acalls_code (rs := [.tmp 2]) Tryz.func99 rfl rfl rfl rfl Ty.mixed (by kernel_rfl) ?_
  have hb := b.toNat_lt
  have hd : classF b = if letterB b = true then 2 else if figB b = true then 3 else if b.toNat = 95 then 5 else if blankB b = true then 1 else if 0 ≤ Lib.indexByte signsA.data.toList b.toNat.toUInt8 then 4 else 0 := rfl
  have hL : letterB b = decide ((97 ≤ b.toNat ∧ b.toNat ≤ 122) ∨ (65 ≤ b.toNat ∧ b.toNat ≤ 90)) := rfl
  have hF : figB b = decide (48 ≤ b.toNat ∧ b.toNat ≤ 57) := rfl
  have hB : blankB b = decide (b.toNat = 32 ∨ b.toNat = 9 ∨ b.toNat = 10 ∨ b.toNat = 13) := rfl
  have tail : ∀ (h1 : letterB b = false) (h2 : figB b = false) (h3 : b.toNat ≠ 95), classF b = if blankB b = true then 1 else if 0 ≤ Lib.indexByte signsA.data.toList b.toNat.toUInt8 then 4 else 0 := fun h1 h2 h3 => by
    rw [hd, h1, h2]; simp [h3]
  have r2 : letterB b = true → classF b = 2 := fun h1 => by rw [hd, h1]; rfl
  have r3 : letterB b = false → figB b = true → classF b = 3 := fun h1 h2 => by rw [hd, h1, h2]; rfl
  have r5 : letterB b = false → figB b = false → b.toNat = 95 → classF b = 5 := fun h1 h2 h3 => by rw [hd, h1, h2, h3]; rfl
  have r1 : letterB b = false → figB b = false → b.toNat ≠ 95 → blankB b = true → classF b = 1 := fun h1 h2 h3 h4 => by rw [tail h1 h2 h3, h4]; rfl
  have r0 : letterB b = false → figB b = false → b.toNat ≠ 95 → blankB b = false → classF b = if 0 ≤ Lib.indexByte signsA.data.toList b.toNat.toUInt8 then 4 else 0 := fun h1 h2 h3 h4 => by rw [tail h1 h2 h3, h4]; rfl
  rw [hL] at r0 r1 r2 r3 r5
  rw [hF] at r0 r1 r3 r5
  rw [hB] at r0 r1
  simp (disch := omega) only [go_sem, seval]
  repeat' (first | refine aIf.pos (by omega) ?_ | refine aIf.neg (by omega) ?_ | refine aIf.intro (fun hc => ?_) (fun hc => ?_)) <;> try simp (disch := omega) only [go_sem, seval]
  all_goals first
    | (rw [r2 (decide_eq_true (by omega))]; done)
    | (rw [r3 (decide_eq_false (by omega)) (decide_eq_true (by omega))]; done)
    | (rw [r5 (decide_eq_false (by omega)) (decide_eq_false (by omega)) (by omega)]; done)
    | (rw [r1 (decide_eq_false (by omega)) (decide_eq_false (by omega)) (by omega) (decide_eq_true (by omega))]; done)
    | skip
  all_goals
    have e0 := r0 (decide_eq_false (by omega)) (decide_eq_false (by omega)) (by omega) (decide_eq_false (by omega))
    refine ACalls.det (ib_calls Γ signsA b.toNat _) ?_
    simp (disch := omega) only [go_sem, seval]
    refine aIf.intro (fun hc => ?_) (fun hc => ?_) <;> simp (disch := omega) only [go_sem, seval]
    · rw [e0, if_pos hc]
    · rw [e0, if_neg hc]
theorem class_two (b : UInt8) : (classF b = 2) ↔ letterB b = true := by
  unfold classF
  cases h1 : letterB b <;> simp
  split
  · simp
  · split
    · simp
    · split
      · simp
      · split <;> simp
theorem class_part (b : UInt8) : (classF b = 2 ∨ classF b = 3 ∨ classF b = 5) ↔ partB b = true := by
  unfold classF partB
  cases h1 : letterB b
  · cases h2 : figB b
    · by_cases h3 : b.toNat = 95
      · simp [h3]
      · simp only [h3, Bool.false_eq_true, if_false, Bool.false_or, decide_false]
        split
        · simp
        · split <;> simp
    · simp
  · simp
set_option maxRecDepth 100000 in
theorem lname_calls (Γ : Nat → Option (List AV)) (l : List UInt8) (h : AH) (hl : l.length ≤ 9223372036854775807) : ACalls Tryz.prog Γ 95 [.str ⟨⟨l⟩⟩] h fun v h' => h' = h ∧ v = .bool (nameL l) := by
  refine ACalls.drop ?_
  refine acalls_code (rs := [.tmp 2]) Tryz.func95 rfl rfl rfl rfl Ty.mixed (by kernel_rfl) ?_
  simp (disch := omega) only [go_sem, seval, str_size, str_list, str_listA]
  cases l with
  | nil =>
    simp (disch := omega) only [go_sem, seval, str_size, nil_eq, List.isEmpty_nil]
    rfl
  | cons b r =>
  simp (disch := omega) only [go_sem, seval, str_size, nil_eq, List.isEmpty_cons]
  simp only [List.length_cons] at hl
  refine aIf.intro (fun h2 => ?_) (fun h2 => ?_) <;> simp (disch := omega) only [go_sem, seval, str_size]
  · rw [nameL, decide_eq_false (by omega)]; rfl
  have hn : nameL (b :: r) = (letterB b && (b :: r).all partB) := by
    rw [nameL, decide_eq_true (by omega), Bool.true_and]
  rw [hn]
  refine ⟨b, by rw [str_get]; rfl, ?_⟩
  refine ACalls.det (class_calls Γ b _) ?_
  simp (disch := omega) only [go_sem, seval]
  refine aIf.intro (fun h3 => ?_) (fun h3 => ?_) <;> simp (disch := omega) only [go_sem, seval, str_size]
  rotate_left
  · cases hb : letterB b
    · rfl
    · exact absurd ((class_two b).2 hb) h3
  rw [(class_two b).1 h3, Bool.true_and]
  refine awp_loopL (β := Unit) (b :: r) [0, 19, 20] (fun don _ => [(0, .str ⟨⟨b :: r⟩⟩), (19, .int .i64 (r.length + 1)), (20, .int .i64 don.length)]) (fun _ => h) (fun don rest _ => don.all partB = true) () ?_ rfl rfl Ty.mixed (by kernel_rfl) ?_ ?_
  · simp (disch := omega) only [go_sem, seval, List.length_nil]
  · rintro don x rest _ hd hp
    have hlen : r.length + 1 = don.length + 1 + rest.length := by rw [← List.length_cons (a := b), hd]; simp; omega
    have e1 : (b :: r)[don.length]? = some x := by rw [hd]; simp
    simp (disch := omega) only [go_sem, seval, str_size]
    refine aIf.pos (by omega) ?_
    simp (disch := omega) only [go_sem, seval]
    refine ⟨x, by rw [str_get]; exact e1, ?_⟩
    refine ACalls.det (class_calls Γ x _) ?_
    simp (disch := omega) only [go_sem, seval]
    have hx := class_part x
    have fin : partB x = false → (partB b && r.all partB) = false := fun e => by rw [← List.all_cons (f := partB) (a := b) (l := r), hd, List.all_append, List.all_cons, e]; simp
    repeat' (first | refine aIf.intro (fun hc => ?_) (fun hc => ?_)) <;> try simp (disch := omega) only [go_sem, seval]
    all_goals first
      | (have hp2 : partB x = true := hx.1 (by omega)
         refine roundL_next () (by rw [List.all_append, hp, List.all_cons, hp2]; rfl) ?_ rfl
         simp (disch := omega) only [go_sem, seval, List.length_append])
      | (have hp2 : partB x = false := by
           cases h : partB x
           · rfl
           · have := hx.2 h; omega
         rw [fin hp2])
  · rintro _ hp
    simp (disch := omega) only [go_sem, seval, str_size]
    refine AWP.keep [0] (aCode_ok Ty.mixed _ _ _ _ (by kernel_rfl) ?_)
    simp (disch := omega) only [go_sem, seval]
    rw [List.all_cons] at hp
    rw [hp]
set_option maxHeartbeats 2000000 in
set_option maxRecDepth 100000 in
theorem isFree_calls (Γ : Nat → Option (List AV)) (l : List UInt8) (h : AH) (hl : l.length ≤ 9223372036854775807) : ACalls Tryz.prog Γ 84 [.str ⟨⟨l⟩⟩] h fun v h' => h' = h ∧ v = .bool (freeL l) := by
  refine ACalls.drop ?_
  have hd : wordL l = wordsL.any fun w => l == w := rfl
  have hf : freeL l = (nameL l && !wordL l) := rfl
  simp only [wordsL, List.any_cons, List.any_nil] at hd
  refine acalls_code (rs := [.tmp 2]) Tryz.func84 rfl rfl rfl rfl Ty.mixed (by kernel_rfl) ?_
  simp (disch := omega) only [go_sem, seval, str_list, str_listA]
  cases h0 : (l == [112, 111, 108, 105, 99, 121]) <;> rw [h0] at hd <;> simp (disch := omega) only [go_sem, seval, str_list, str_listA]
  rotate_left
  · rw [hf, hd]; simp
  cases h1 : (l == [109, 111, 100, 101]) <;> rw [h1] at hd <;> simp (disch := omega) only [go_sem, seval, str_list, str_listA]
  rotate_left
  · rw [hf, hd]; simp
  cases h2 : (l == [111, 108, 100]) <;> rw [h2] at hd <;> simp (disch := omega) only [go_sem, seval, str_list, str_listA]
  rotate_left
  · rw [hf, hd]; simp
  cases h3 : (l == [110, 101, 119]) <;> rw [h3] at hd <;> simp (disch := omega) only [go_sem, seval, str_list, str_listA]
  rotate_left
  · rw [hf, hd]; simp
  cases h4 : (l == [98, 111, 116, 104]) <;> rw [h4] at hd <;> simp (disch := omega) only [go_sem, seval, str_list, str_listA]
  rotate_left
  · rw [hf, hd]; simp
  cases h5 : (l == [101, 105, 116, 104, 101, 114]) <;> rw [h5] at hd <;> simp (disch := omega) only [go_sem, seval, str_list, str_listA]
  rotate_left
  · rw [hf, hd]; simp
  cases h6 : (l == [111, 102, 102, 105, 99, 101]) <;> rw [h6] at hd <;> simp (disch := omega) only [go_sem, seval, str_list, str_listA]
  rotate_left
  · rw [hf, hd]; simp
  cases h7 : (l == [107, 105, 110, 100]) <;> rw [h7] at hd <;> simp (disch := omega) only [go_sem, seval, str_list, str_listA]
  rotate_left
  · rw [hf, hd]; simp
  cases h8 : (l == [114, 117, 108, 101]) <;> rw [h8] at hd <;> simp (disch := omega) only [go_sem, seval, str_list, str_listA]
  rotate_left
  · rw [hf, hd]; simp
  cases h9 : (l == [116, 104, 105, 110, 107]) <;> rw [h9] at hd <;> simp (disch := omega) only [go_sem, seval, str_list, str_listA]
  rotate_left
  · rw [hf, hd]; simp
  cases h10 : (l == [99, 104, 97, 110, 103, 101]) <;> rw [h10] at hd <;> simp (disch := omega) only [go_sem, seval, str_list, str_listA]
  rotate_left
  · rw [hf, hd]; simp
  cases h11 : (l == [115, 111, 109, 101]) <;> rw [h11] at hd <;> simp (disch := omega) only [go_sem, seval, str_list, str_listA]
  rotate_left
  · rw [hf, hd]; simp
  cases h12 : (l == [119, 101, 105, 103, 104, 116]) <;> rw [h12] at hd <;> simp (disch := omega) only [go_sem, seval, str_list, str_listA]
  rotate_left
  · rw [hf, hd]; simp
  cases h13 : (l == [111, 102]) <;> rw [h13] at hd <;> simp (disch := omega) only [go_sem, seval, str_list, str_listA]
  rotate_left
  · rw [hf, hd]; simp
  cases h14 : (l == [117, 112, 116, 111]) <;> rw [h14] at hd <;> simp (disch := omega) only [go_sem, seval, str_list, str_listA]
  rotate_left
  · rw [hf, hd]; simp
  cases h15 : (l == [101, 108, 115, 101]) <;> rw [h15] at hd <;> simp (disch := omega) only [go_sem, seval, str_list, str_listA]
  rotate_left
  · rw [hf, hd]; simp
  refine ACalls.det (lname_calls Γ l _ hl) ?_
  simp (disch := omega) only [go_sem, seval]
  rw [hf, hd]; simp
end Go.Proofs.YtjdhgaflenhljaaGreatDoor

/- The program's smaller functions on policies. No conditions. -/
set_option linter.unusedSimpArgs false
set_option linter.unusedVariables false
namespace Go.Proofs.YtjdhgaflenhljaaGreatDoor
open Go Go.Proofs Go.Abs

theorem tx_comm (a b : Tx) : (a == b) = (b == a) := by
  by_cases h : a = b
  · subst h; rfl
  · rw [beq_eq_false_iff_ne.2 h, beq_eq_false_iff_ne.2 (Ne.symm h)]
set_option maxRecDepth 100000 in
theorem sindex_calls (Γ : Nat → Option (List AV)) (l : List Tx) (s : Tx) (h : AH) (hl : l.length ≤ 9223372036854775807) : ACalls Tryz.prog Γ 67 [.sl (encT l) .free, .str ⟨⟨s⟩⟩] h fun v h' => h' = h ∧ v = .int .i64 (idxT l s) := by
  refine ACalls.drop ?_
  refine acalls_code (rs := [.tmp 4]) Tryz.func67 rfl rfl rfl rfl Ty.mixed (by kernel_rfl) ?_
  simp (disch := omega) only [go_sem, seval, encT_len]
  refine awp_loopL (β := Unit) l [0, 1, 7, 8] (fun don _ => [(0, .sl (encT l) .free), (1, .str ⟨⟨s⟩⟩), (7, .int .i64 l.length), (8, .int .i64 don.length)]) (fun _ => h) (fun don _ _ => ∀ y ∈ don, (y == s) = false) () ?_ rfl (by simp) Ty.mixed (by kernel_rfl) ?_ ?_
  · simp (disch := omega) only [go_sem, seval, List.length_nil]
  · rintro don x r _ hd hp
    have hlen : l.length = don.length + 1 + r.length := by rw [hd]; simp; omega
    have e1 : (encT l)[don.length]? = some (.str ⟨⟨x⟩⟩) := by rw [hd]; exact encT_get don r x
    simp (disch := omega) only [go_sem, seval, encT_len]
    refine aIf.pos (by omega) ?_
    simp (disch := omega) only [go_sem, seval, e1, str_list, str_listA, tx_comm s x]
    cases hx : (x == s) <;> simp (disch := omega) only [go_sem, seval]
    · refine roundL_next () ?_ ?_ rfl
      · intro z hz
        rcases List.mem_append.1 hz with hz | hz
        · exact hp z hz
        · simp at hz; subst hz; exact hx
      · simp (disch := omega) only [go_sem, seval, List.length_append]
    · rw [hd, idx_at hp hx]
  · rintro _ hp
    simp (disch := omega) only [go_sem, seval, encT_len]
    refine AWP.keep [] (aCode_ok Ty.mixed _ _ _ _ (by kernel_rfl) ?_)
    simp (disch := omega) only [go_sem, seval]
    rw [idx_no hp]
set_option maxRecDepth 100000 in
theorem scontains_calls (Γ : Nat → Option (List AV)) (l : List Tx) (s : Tx) (h : AH) (hl : l.length ≤ 9223372036854775807) : ACalls Tryz.prog Γ 86 [.sl (encT l) .free, .str ⟨⟨s⟩⟩] h fun v h' => h' = h ∧ v = .bool (decide (0 ≤ idxT l s)) := by
  refine ACalls.drop ?_
  refine acalls_code (rs := [.tmp 4]) Tryz.func86 rfl rfl rfl rfl Ty.mixed (by kernel_rfl) ?_
  simp (disch := omega) only [go_sem, seval]
  refine ACalls.det (sindex_calls Γ l s _ hl) ?_
  simp (disch := omega) only [go_sem, seval]
set_option maxRecDepth 100000 in
theorem pdistinct_calls (Γ : Nat → Option (List AV)) (l : List Tx) (h : AH) (hl : l.length ≤ 9223372036854775807) (ht : ∀ s ∈ l, s.length ≤ 9223372036854775807) : ACalls Tryz.prog Γ 85 [.sl (encT l) .free, .func 84 [] []] h fun v h' => h' = h ∧ v = .bool (distT l) := by
  refine ACalls.drop ?_
  refine acalls_code (rs := [.tmp 4]) Tryz.func85 rfl rfl rfl rfl Ty.mixed (by kernel_rfl) ?_
  simp (disch := omega) only [go_sem, seval, encT_len]
  refine awp_loopL (β := Unit) l [0, 1, 7, 8, 9] (fun don _ => [(0, .sl (encT l) .free), (1, .func 84 [] []), (7, .sl (encT l) .free), (8, .int .i64 l.length), (9, .int .i64 don.length)]) (fun _ => h) (fun don r _ => distT l = distS don r) () ?_ rfl rfl Ty.mixed (by kernel_rfl) ?_ ?_
  · simp (disch := omega) only [go_sem, seval, List.length_nil]
  · rintro don x r _ hd hp
    have hlen : l.length = don.length + 1 + r.length := by rw [hd]; simp; omega
    have e1 : (encT l)[don.length]? = some (.str ⟨⟨x⟩⟩) := by rw [hd]; exact encT_get don r x
    have hx : x ∈ l := by rw [hd]; simp
    rw [hp, distS]
    simp (disch := omega) only [go_sem, seval, encT_len]
    refine aIf.pos (by omega) ?_
    simp (disch := omega) only [go_sem, seval, e1, List.nil_append, List.cons_append]
    refine ACalls.det (isFree_calls Γ x _ (ht x hx)) ?_
    simp (disch := omega) only [go_sem, seval]
    cases hf : freeL x <;> simp (disch := omega) only [go_sem, seval, e1]
    refine ACalls.det (sindex_calls Γ l x _ hl) ?_
    simp (disch := omega) only [go_sem, seval]
    refine aIf.intro (fun hc => ?_) (fun hc => ?_) <;> simp (disch := omega) only [go_sem, seval]
    · refine roundL_next () ?_ ?_ rfl
      · rw [← hd, hc]; simp
      · simp (disch := omega) only [go_sem, seval, List.length_append]
    · rw [← hd, beq_eq_false_iff_ne.2 hc]; rfl
  · rintro _ hp
    simp (disch := omega) only [go_sem, seval, encT_len]
    refine AWP.keep [] (aCode_ok Ty.mixed _ _ _ _ (by kernel_rfl) ?_)
    simp (disch := omega) only [go_sem, seval]
    rw [hp]; rfl
set_option maxRecDepth 100000 in
theorem isNamed_calls (Γ : Nat → Option (List AV)) (x : Ex) (h : AH) : ACalls Tryz.prog Γ 66 [encX x] h fun v h' => h' = h ∧ v = .bool (isNmd x) := by
  refine ACalls.drop ?_
  refine acalls_code (rs := [.tmp 2]) Tryz.func66 rfl rfl rfl rfl Ty.mixed (by kernel_rfl) ?_
  rw [encX_eq]
  simp (disch := omega) only [go_sem, seval]
  refine aIf.intro (fun hc => ?_) (fun hc => ?_) <;> simp (disch := omega) only [go_sem, seval]
  · simp [isNmd, hc]
  · have hd : isNmd x = (x.k == 1 || x.k == 2) := rfl
    rw [hd, beq_eq_false_iff_ne.2 hc, Bool.false_or]
    congr 1
set_option maxRecDepth 100000 in
theorem within_calls (Γ : Nat → Option (List AV)) (n a b : Int) (h : AH) : ACalls Tryz.prog Γ 28 [.int .i64 n, .int .i64 a, .int .i64 b] h fun v h' => h' = h ∧ v = .bool (decide (a ≤ n ∧ n ≤ b)) := by
  refine ACalls.drop ?_
  refine acalls_code (rs := [.tmp 6]) Tryz.func28 rfl rfl rfl rfl Ty.mixed (by kernel_rfl) ?_
  simp (disch := omega) only [go_sem, seval]
  refine aIf.intro (fun hc => ?_) (fun hc => ?_) <;> simp (disch := omega) only [go_sem, seval]
  · congr 1; exact decide_eq_decide.2 (by omega)
  · rw [decide_eq_false (by omega)]
/-- The panic of an error. -/
def errV (e : Int) : AV := .iface 116 (.agg [.int .i64 e])
def errU (e : Int) : Value := .iface 116 (.agg #[.int .i64 e])
theorem errV_exact (e : Int) : exactV (errV e) = some (errU e) := by
  rw [errV, exactV, exactV, exactL, exactV, exactL]; rfl
set_option maxRecDepth 100000 in
theorem must_calls (Γ : Nat → Option (List AV)) (e : Int) (h : AH) : ACalls Tryz.prog Γ 82 [.bool true, .int .i64 e] h fun v h' => h' = h ∧ v = .tuple [] := by
  refine ACalls.drop ?_
  refine acalls_code (rs := []) Tryz.func82 rfl rfl rfl rfl Ty.mixed (by kernel_rfl) ?_
  simp (disch := omega) only [go_sem, seval]
set_option maxRecDepth 100000 in
theorem must_pan (Γ : Nat → Option (List AV)) (B : Nat) (e : Int) (h : AH) (hB : B ≤ h.length) : ACallsX Tryz.prog Γ B 82 [.bool false, .int .i64 e] h (fun _ _ => False) fun u => u = errU e := by
  refine acallsX_code (rs := []) 82 Tryz.func82 rfl rfl rfl rfl (by kernel_rfl) ?_
  simp (disch := omega) only [go_sem, seval]
  have := PanOK.here (B := B) (h := h) (X := fun u => u = errU e) (u := errU e) hB rfl []
  rw [List.append_nil] at this
  exact this
def exK (h : AH) (p : Pol) : AH := h ++ [.row [.str ⟨⟨p.name⟩⟩, .sl (encT p.kinds) .free, .sl (encT p.offices) .free, .sl (p.rules.map encRl) .free, .int .i64 p.change.k, .int .i64 p.change.n, .int .i64 p.change.no, .str ⟨⟨p.change.name⟩⟩, .sl (p.change.l.map encX) .free, .int .i64 p.mode] 37]
set_option maxRecDepth 100000 in
theorem exprs_calls (Γ : Nat → Option (List AV)) (p : Pol) (h : AH) (hs : ShP p) (hl : p.rules.length ≤ 1000000) : ACalls Tryz.prog Γ 83 [encPol p] h fun v h' => h' = h ∧ v = .sl ((exprs p).map encX) .free := by
  refine ACalls.dropL ?_
  refine acalls_code (rs := [.tmp 2]) Tryz.func83 rfl rfl rfl rfl Ty.mixed (by kernel_rfl) ?_
  rw [encPol_eq]
  have hr := hs.rules
  simp (disch := omega) only [go_sem, seval, List.length_map]
  refine awp_loopL (β := List Ex × Abs.Own × AH) p.rules [1, 2, 6, 7, 8] (fun don b => [(1, .ptr (some (h.length, 0))), (2, .sl (b.1.map encX) b.2.1), (6, .sl (p.rules.map encRl) .free), (7, .int .i64 p.rules.length), (8, .int .i64 don.length)]) (fun b => exK h p ++ b.2.2) (fun don _ b => b.1 = don.map Rl.x ∧ OwnAt (exK h p) b.2.2 don.length b.2.1) ([], .full, []) ?_ (by simp [exK]) ⟨rfl, trivial⟩ Ty.mixed (by kernel_rfl) ?_ ?_
  · simp (disch := omega) only [go_sem, seval, List.length_nil]
  · rintro don x r ⟨xs, own, X⟩ hdn ⟨hxs, hown⟩
    simp only at hown hxs ⊢
    have hlen : p.rules.length = don.length + 1 + r.length := by rw [hdn]; simp; omega
    have e1 : (p.rules.map encRl)[don.length]? = some (encRl x) := by rw [hdn]; exact rowMid ..
    have hrl : xs.length = don.length := by rw [hxs, List.length_map]
    have hxe := encX_eq x.x
    rw [encRl_eq] at e1
    simp (disch := omega) only [go_sem, seval, List.length_map, exK]
    refine aIf.pos (by omega) ?_
    simp (disch := omega) only [go_sem, seval, e1, exK]
    rw [← hxe]
    have eh : ∀ X, h ++ .row [.str ⟨⟨p.name⟩⟩, .sl (encT p.kinds) .free, .sl (encT p.offices) .free, .sl (p.rules.map encRl) .free, .int .i64 p.change.k, .int .i64 p.change.n, .int .i64 p.change.no, .str ⟨⟨p.change.name⟩⟩, .sl (p.change.l.map encX) .free, .int .i64 p.mode] 37 :: X = exK h p ++ X := fun X => by simp [exK]
    rw [eh]
    refine aAp_sl (by rw [List.length_map, hrl]; exact hown.app _) (rowsOK_X _) (rowsOK_X [x.x]) (by simp; omega) (by simp; omega) fun j' own' ho' hg => ?_
    simp (disch := omega) only [go_sem, seval]
    refine roundL_next (xs ++ [x.x], own', j') ⟨?_, ?_⟩ ?_ ?_
    · rw [hxs]; simp
    · simpa [exK, hrl] using ho'
    · simp (disch := omega) only [go_sem, seval, List.length_append, List.map_append]
    · simp [exK]
  · rintro ⟨xs, own, X⟩ ⟨hxs, hown⟩
    simp only at hown hxs ⊢
    simp (disch := omega) only [go_sem, seval, List.length_map, exK]
    refine AWP.keep [1, 2] (aCode_ok Ty.mixed _ _ _ _ (by kernel_rfl) ?_)
    simp (disch := omega) only [go_sem, seval, exK]
    have hxe := encX_eq p.change
    have hrl : xs.length = p.rules.length := by rw [hxs, List.length_map]
    rw [← hxe]
    have eh : ∀ X, h ++ .row [.str ⟨⟨p.name⟩⟩, .sl (encT p.kinds) .free, .sl (encT p.offices) .free, .sl (p.rules.map encRl) .free, .int .i64 p.change.k, .int .i64 p.change.n, .int .i64 p.change.no, .str ⟨⟨p.change.name⟩⟩, .sl (p.change.l.map encX) .free, .int .i64 p.mode] 37 :: X = exK h p ++ X := fun X => by simp [exK]
    rw [eh]
    refine aAp_sl (by rw [List.length_map, hrl]; exact hown) (rowsOK_X _) (rowsOK_X [p.change]) (by simp; omega) (by simp; omega) fun j' own' ho' hg => ?_
    rw [exK]
    have er : xs.map encX ++ [encX p.change] = (exprs p).map encX := by rw [exprs, hxs]; simp
    simp (disch := omega) only [go_sem, seval]
    rw [er, loose_Xs]
    exact ⟨rb_Xs _ _ ▸ trivial, rfl⟩
end Go.Proofs.YtjdhgaflenhljaaGreatDoor
