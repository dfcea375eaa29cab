/- Texts joined: SrtA, Shelf, SrtB, SrtC, SrtD, SrtE, SrtF. No conditions. -/
import Derived.Test.YtelehpccfaedjaaMrG
import Derived.Shelf.Sort.Plain
import Derived.Shelf.SlSortCmp.Whole1
import Derived.Ground.SlsfProg
import Derived.Shelf.Slices.CompactI
import Derived.Ground.Names2Prog
import Derived.Test.YtelehpccfaedjaaProg
import Derived.Test.YtelehpccfaedjaaMrK
import Derived.Shelf.SlSortCmp.Kit1
import Derived.Test.YtelehpccfaedjaaMrM
/- The library's sort, whatever the length: from the shelf's contract to abstract values. It says nothing of any program; no conditions. -/
set_option linter.unusedSimpArgs false
set_option linter.unusedVariables false
namespace Go.Abs
open Go Go.RowKit Go.Sort Go.Shelf

theorem putCells_get {α : Type} [Inhabited α] (enc : α → Value) (d : Array α) (c : Array Value) (k : Nat) : (putCells enc 0 d c)[k]? = (c[k]?).map fun x => if k < d.size then enc d[k]! else x := by
  simp [putCells, Array.getElem?_mapIdx]
section
variable {Γ : Nat → Option (List AV)} {G : Gh} {h : AH} {w : World}
theorem Inv.sorted {α : Type} [Inhabited α] (enc : α → Value) (av : α → AV) (hI : Inv Γ G h w) {i b : Nat} {T : TypeId} {vals : Array Value} {cs pad : List AV} {d' : Array α} (hi : h[i]? = some (.row cs T)) (hρ : G.ρ i = some b)
    (hw : w.heap[b]? = some (.cells vals T (0, 0))) (hcs : VRs G cs vals) (hlen : cs.length = d'.size + pad.length) (hpad : ∀ j, cs[d'.size + j]? = pad[j]?) (hav : ∀ x ∈ d'.toList, VR G (av x) (enc x)) (n : Nat) (os : Array Obj) :
    Inv Γ G (h.set i (.row (d'.toList.map av ++ pad) T)) (grow (Go.Sort.putRow enc (Go.Sort.ahead w n) b 0 d') os) := by
  have hblk : (Go.Sort.putRow enc (Go.Sort.ahead w n) b 0 d').heap[b]? = some (.cells (putCells enc 0 d' vals) T (0, 0)) := by
    show ((Go.Sort.ahead w n).heap.modify b (onCells (putCells enc 0 d')))[b]? = _
    rw [Array.getElem?_modify, if_pos rfl, heap_ahead, hw]
    rfl
  have h1 : Inv Γ G (h.set i (.row (d'.toList.map av ++ pad) T)) (Go.Sort.putRow enc (Go.Sort.ahead w n) b 0 d') := by
    refine hI.write (w' := Go.Sort.putRow enc (Go.Sort.ahead w n) b 0 d') hρ ?_ rfl rfl rfl (fun k hk => ?_) (.row (d'.toList.map av ++ pad) T) ⟨b, _, hρ, hblk, ?_⟩ (fun D hD => ?_) (by rw [hw]; simp) (by rw [hi]; simp) (Nat.le_add_right _ _)
    · show ((Go.Sort.ahead w n).heap.modify b (onCells (putCells enc 0 d'))).size = _
      simp
    · show ((Go.Sort.ahead w n).heap.modify b (onCells (putCells enc 0 d')))[k]? = _
      rw [Array.getElem?_modify, if_neg (fun e => hk e.symm)]; rfl
    · refine ⟨by simp [putCells, ← hcs.1, hlen], fun j c e => ?_⟩
      rw [Array.getD_eq_getD_getElem?, putCells_get]
      by_cases hj : j < d'.size
      · rw [List.getElem?_append_left (by simpa using hj), List.getElem?_map] at e
        obtain ⟨x, hx, rfl⟩ := Option.map_eq_some_iff.1 e
        obtain ⟨v, hv⟩ : ∃ v, vals[j]? = some v := ⟨vals[j]'(by rw [← hcs.1, hlen]; omega), by simp⟩
        rw [hv]
        simp only [Option.map_some, Option.getD_some, if_pos hj]
        have hxm : x ∈ d'.toList := List.mem_of_getElem? hx
        have : d'[j]! = x := by
          rw [getElem!_pos d' j hj]
          have := (List.getElem?_eq_some_iff.1 hx).2
          simpa using this
        rw [this]
        exact hav x hxm
      · obtain ⟨k, rfl⟩ : ∃ k, j = d'.size + k := ⟨j - d'.size, by omega⟩
        rw [List.getElem?_append_right (by simp)] at e
        simp only [List.length_map, Array.length_toList, Nat.add_sub_cancel_left] at e
        rw [← hpad k] at e
        obtain ⟨u, q1, q2⟩ := hcs.get e
        rw [q1]
        simp only [Option.map_some, Option.getD_some]
        rw [if_neg (by omega)]
        exact q2
    · obtain ⟨l, k1, _⟩ := hI.lp b D hD
      rw [hw] at k1; cases k1
  exact h1.later (by simp [grow]) rfl rfl rfl (fun k hk => by
    simp only [grow]
    rw [Array.getElem?_append_left hk])
end
theorem acalls_sort_int {P : Program} {ρ : Ren} {Γ : Nat → Option (List AV)} (L : Go.Proofs.Lays.n189 P ρ) {f : FuncId} (hf : ρ.f 189 = f) (he : ∀ vs w, (callFunc f vs).run P w = .ok (.enter f vs) w) (i c : Nat) (T : TypeId) (l : List Int) (pad : List AV) (h : AH)
    (hi : h[i]? = some (.row (l.map (fun x => AV.int .i64 x) ++ pad) T)) (hl : l.length < 4611686018427387904) :
    ACalls P Γ f [.ms i 0 l.length c 1] h fun v h' => v = .tuple [] ∧ h' = h.set i (.row ((l.mergeSort fun x y => decide (x ≤ y)).map (fun x => AV.int .i64 x) ++ pad) T) := by
  subst hf
  refine ⟨he, fun G w vs hI hv => ?_⟩
  obtain ⟨b, vals, h1, h2, h3⟩ := hI.row hi
  obtain ⟨u, rfl, hu⟩ : ∃ u, vs = #[u] ∧ VR G (.ms i 0 l.length c 1) u := by
    obtain ⟨k1, k2⟩ := hv
    match vs, k1 with
    | ⟨[u]⟩, _ => exact ⟨u, rfl, k2 0 _ rfl⟩
  cases hu with
  | ms hb =>
    rw [h1] at hb; cases hb
    have hval : ∀ j, j < l.length → vals[j]? = some (Value.int .i64 l[j]!) := fun j hj => by
      have e : (l.map (fun x => AV.int .i64 x) ++ pad)[j]? = some (.int .i64 l[j]!) := by
        rw [List.getElem?_append_left (by simpa using hj), List.getElem?_map, List.getElem?_eq_getElem hj, getElem!_pos l j hj]; rfl
      obtain ⟨v, q1, q2⟩ := h3.get e
      cases q2
      exact q1
    refine (Go.Proofs.Any.slices_Sort_int L b 0 c l w (fun j hj => ?_) (lt_of_heap h2) hl).mono ?_
    · have hj' : j < l.length := by simpa using hj
      refine ⟨?_, ?_⟩
      · rw [cell_of h2, Nat.zero_add, hval j hj']; simp [hj']
      · simp [World.frozen?, h2]
    · rintro e w' ⟨rfl, n, os, rfl⟩
      refine ⟨_, G, .tuple [], _, rfl, Gh.le.refl G, hI.sorted (Value.int .i64) (fun x => .int .i64 x) (d' := (l.mergeSort fun x y => decide (x ≤ y)).toArray) (pad := pad) hi h1 h2 h3 (by simp) (fun j => ?_) (fun x _ => .int _ _) n os, .tuple (by simp) (by simp), rfl, by simp⟩
      rw [List.getElem?_append_right (by simp)]
      simp
end Go.Abs

/- The shelf's contracts at this dump: layings, written by the kit's lay-plain.mjs. No conditions. -/
set_option linter.unusedSimpArgs false
set_option linter.unusedVariables false
namespace Go.Proofs
open Go.Shelf
def Try.lays189_ren : Go.Shelf.Ren := ⟨fun | 189 => 80 | 125 => 113 | 257 => 112 | 128 => 137 | 129 => 138 | 294 => 128 | 295 => 129 | 296 => 130 | 297 => 131 | 298 => 132 | 299 => 133 | 216 => 134 | 300 => 135 | 301 => 136 | 328 => 150 | 329 => 151 | 330 => 152 | 331 => 153 | 332 => 154 | 215 => 155 | 343 => 160 | n => n, fun | 28 => 29 | 3 => 3 | 46 => 117 | 0 => 0 | 51 => 171 | 53 => 173 | 4 => 4 | 183 => 164 | 182 => 163 | 131 => 168 | 5 => 5 | 9 => 9 | 218 => 182 | 222 => 186 | 228 => 191 | 229 => 80 | n => n, fun | n => n⟩
theorem Try.lays189 : Go.Proofs.Lays.n189 Try.prog Try.lays189_ren := {
  mixed := by kernel_rfl
  f125 := Try.func113.trans (congrArg some (by kernel_rfl))
  f128 := Try.func137.trans (congrArg some (by kernel_rfl))
  f129 := Try.func138.trans (congrArg some (by kernel_rfl))
  f189 := Try.func80.trans (congrArg some (by kernel_rfl))
  f215 := Try.func155.trans (congrArg some (by kernel_rfl))
  f216 := Try.func134.trans (congrArg some (by kernel_rfl))
  f257 := Try.func112.trans (congrArg some (by kernel_rfl))
  f294 := Try.func128.trans (congrArg some (by kernel_rfl))
  f295 := Try.func129.trans (congrArg some (by kernel_rfl))
  f296 := Try.func130.trans (congrArg some (by kernel_rfl))
  f297 := Try.func131.trans (congrArg some (by kernel_rfl))
  f298 := Try.func132.trans (congrArg some (by kernel_rfl))
  f299 := Try.func133.trans (congrArg some (by kernel_rfl))
  f300 := Try.func135.trans (congrArg some (by kernel_rfl))
  f301 := Try.func136.trans (congrArg some (by kernel_rfl))
  f328 := Try.func150.trans (congrArg some (by kernel_rfl))
  f329 := Try.func151.trans (congrArg some (by kernel_rfl))
  f330 := Try.func152.trans (congrArg some (by kernel_rfl))
  f331 := Try.func153.trans (congrArg some (by kernel_rfl))
  f332 := Try.func154.trans (congrArg some (by kernel_rfl))
  f343 := Try.func160.trans (congrArg some (by kernel_rfl))
  t0 := Try.underlying0
  a0 := Try.isAgg0
  z0 := Try.sizeOf0
  v0 := Try.zeroValue0
  t3 := Try.underlying3
  a3 := Try.isAgg3
  z3 := Try.sizeOf3
  v3 := Try.zeroValue3
  t4 := Try.underlying4
  a4 := Try.isAgg4
  z4 := Try.sizeOf4
  v4 := Try.zeroValue4
  t5 := Try.underlying5
  a5 := Try.isAgg5
  z5 := Try.sizeOf5
  v5 := Try.zeroValue5
  t9 := Try.underlying9
  a9 := Try.isAgg9
  z9 := Try.sizeOf9
  v9 := Try.zeroValue9
  t28 := Try.underlying29
  a28 := Try.isAgg29
  z28 := Try.sizeOf29
  v28 := Try.zeroValue29
  t46 := Try.underlying117
  a46 := Try.isAgg117
  z46 := Try.sizeOf117
  v46 := Try.zeroValue117
  t51 := Try.underlying171
  a51 := Try.isAgg171
  z51 := Try.sizeOf171
  v51 := Try.zeroValue171
  t53 := Try.underlying173
  a53 := Try.isAgg173
  z53 := Try.sizeOf173
  v53 := Try.zeroValue173
  t131 := Try.underlying168
  a131 := Try.isAgg168
  z131 := Try.sizeOf168
  v131 := Try.zeroValue168
  t182 := Try.underlying163
  a182 := Try.isAgg163
  z182 := Try.sizeOf163
  v182 := Try.zeroValue163
  t183 := Try.underlying164
  a183 := Try.isAgg164
  z183 := Try.sizeOf164
  v183 := Try.zeroValue164
  t218 := Try.underlying182
  a218 := Try.isAgg182
  z218 := Try.sizeOf182
  v218 := Try.zeroValue182
  t222 := Try.underlying186
  a222 := Try.isAgg186
  z222 := Try.sizeOf186
  v222 := Try.zeroValue186
  t228 := Try.underlying191
  a228 := Try.isAgg191
  z228 := Try.sizeOf191
  v228 := Try.zeroValue191
  t229 := Try.underlying80
  a229 := Try.isAgg80
  z229 := Try.sizeOf80
  v229 := Try.zeroValue80 }
def Try.laysSlF6_f103_ren : Go.Shelf.Ren := ⟨fun | 6 => 103 | 15 => 113 | 14 => 125 | 28 => 137 | 29 => 138 | 20 => 141 | 21 => 142 | 22 => 143 | 23 => 144 | 24 => 145 | 25 => 146 | 26 => 147 | 27 => 148 | 46 => 157 | 47 => 151 | 48 => 152 | 49 => 158 | 50 => 159 | 57 => 161 | n => n, fun | 22 => 55 | 24 => 29 | 25 => 150 | 3 => 3 | 39 => 117 | 0 => 0 | 53 => 171 | 55 => 173 | 4 => 4 | 46 => 164 | 45 => 163 | 50 => 168 | 5 => 5 | 9 => 9 | 66 => 182 | 70 => 186 | 76 => 191 | 77 => 80 | n => n, fun | n => n⟩
theorem Try.laysSlF6_f103 : Go.Proofs.SlLaysF.n6 Try.prog Try.laysSlF6_f103_ren := {
  mixed := by kernel_rfl
  f6 := ⟨Try.f103.name, by decide, Try.func103.trans (congrArg some (by kernel_rfl))⟩
  f14 := ⟨Try.f125.name, by decide, Try.func125.trans (congrArg some (by kernel_rfl))⟩
  f15 := Try.func113.trans (congrArg some (by kernel_rfl))
  f20 := ⟨Try.f141.name, by decide, Try.func141.trans (congrArg some (by kernel_rfl))⟩
  f21 := ⟨Try.f142.name, by decide, Try.func142.trans (congrArg some (by kernel_rfl))⟩
  f22 := ⟨Try.f143.name, by decide, Try.func143.trans (congrArg some (by kernel_rfl))⟩
  f23 := ⟨Try.f144.name, by decide, Try.func144.trans (congrArg some (by kernel_rfl))⟩
  f24 := ⟨Try.f145.name, by decide, Try.func145.trans (congrArg some (by kernel_rfl))⟩
  f25 := ⟨Try.f146.name, by decide, Try.func146.trans (congrArg some (by kernel_rfl))⟩
  f26 := ⟨Try.f147.name, by decide, Try.func147.trans (congrArg some (by kernel_rfl))⟩
  f27 := ⟨Try.f148.name, by decide, Try.func148.trans (congrArg some (by kernel_rfl))⟩
  f28 := Try.func137.trans (congrArg some (by kernel_rfl))
  f29 := Try.func138.trans (congrArg some (by kernel_rfl))
  f46 := ⟨Try.f157.name, by decide, Try.func157.trans (congrArg some (by kernel_rfl))⟩
  f47 := Try.func151.trans (congrArg some (by kernel_rfl))
  f48 := Try.func152.trans (congrArg some (by kernel_rfl))
  f49 := ⟨Try.f158.name, by decide, Try.func158.trans (congrArg some (by kernel_rfl))⟩
  f50 := ⟨Try.f159.name, by decide, Try.func159.trans (congrArg some (by kernel_rfl))⟩
  f57 := ⟨Try.f161.name, by decide, Try.func161.trans (congrArg some (by kernel_rfl))⟩
  t0 := Try.underlying0
  a0 := Try.isAgg0
  z0 := Try.sizeOf0
  v0 := Try.zeroValue0
  t3 := Try.underlying3
  a3 := Try.isAgg3
  z3 := Try.sizeOf3
  v3 := Try.zeroValue3
  t4 := Try.underlying4
  a4 := Try.isAgg4
  z4 := Try.sizeOf4
  v4 := Try.zeroValue4
  t5 := Try.underlying5
  a5 := Try.isAgg5
  z5 := Try.sizeOf5
  v5 := Try.zeroValue5
  t9 := Try.underlying9
  a9 := Try.isAgg9
  z9 := Try.sizeOf9
  v9 := Try.zeroValue9
  t22 := Try.underlying55
  a22 := Try.isAgg55
  z22 := Try.sizeOf55
  v22 := Try.zeroValue55
  a24 := Try.isAgg29
  z24 := Try.sizeOf29
  t25 := Try.underlying150
  a25 := Try.isAgg150
  z25 := Try.sizeOf150
  v25 := Try.zeroValue150
  t39 := Try.underlying117
  a39 := Try.isAgg117
  z39 := Try.sizeOf117
  v39 := Try.zeroValue117
  t45 := Try.underlying163
  a45 := Try.isAgg163
  z45 := Try.sizeOf163
  v45 := Try.zeroValue163
  t46 := Try.underlying164
  a46 := Try.isAgg164
  z46 := Try.sizeOf164
  v46 := Try.zeroValue164
  t50 := Try.underlying168
  a50 := Try.isAgg168
  z50 := Try.sizeOf168
  v50 := Try.zeroValue168
  t53 := Try.underlying171
  a53 := Try.isAgg171
  z53 := Try.sizeOf171
  v53 := Try.zeroValue171
  t55 := Try.underlying173
  a55 := Try.isAgg173
  z55 := Try.sizeOf173
  v55 := Try.zeroValue173
  t66 := Try.underlying182
  a66 := Try.isAgg182
  z66 := Try.sizeOf182
  v66 := Try.zeroValue182
  t70 := Try.underlying186
  a70 := Try.isAgg186
  z70 := Try.sizeOf186
  v70 := Try.zeroValue186
  t76 := Try.underlying191
  a76 := Try.isAgg191
  z76 := Try.sizeOf191
  v76 := Try.zeroValue191
  t77 := Try.underlying80
  a77 := Try.isAgg80
  z77 := Try.sizeOf80
  v77 := Try.zeroValue80 }
def Try.laysNm220_ren : Go.Shelf.Ren := ⟨fun | 20 => 97 | n => n, fun | 22 => 29 | 3 => 3 | 4 => 4 | 0 => 0 | n => n, fun | n => n⟩
theorem Try.laysNm220 : Go.Proofs.Lays2.n20 Try.prog Try.laysNm220_ren := {
  mixed := by kernel_rfl
  f20 := Try.func97.trans (congrArg some (by kernel_rfl))
  t0 := Try.underlying0
  a0 := Try.isAgg0
  z0 := Try.sizeOf0
  v0 := Try.zeroValue0
  t3 := Try.underlying3
  a3 := Try.isAgg3
  z3 := Try.sizeOf3
  v3 := Try.zeroValue3
  t4 := Try.underlying4
  a4 := Try.isAgg4
  z4 := Try.sizeOf4
  v4 := Try.zeroValue4
  t22 := Try.underlying29
  a22 := Try.isAgg29
  z22 := Try.sizeOf29
  v22 := Try.zeroValue29
  i3 := by kernel_rfl }
end Go.Proofs

/- The library's sort of numbers, whatever their number. No conditions. -/
set_option linter.unusedSimpArgs false
set_option linter.unusedVariables false
namespace Go.Proofs.Ytelehpccfaedjaa
open Go Go.Proofs Go.Abs

theorem sortI_merge (l : List Int) : (l.mergeSort fun x y => decide (x ≤ y)) = sortI l := by
  refine sortI_of ?_ (List.mergeSort_perm _ _)
  have := List.pairwise_mergeSort (le := fun x y : Int => decide (x ≤ y)) (fun a b c h1 h2 => by simp at h1 h2 ⊢; omega) (fun a b => by simp; omega) l
  exact this.imp fun h => by simpa using h
/-- slices.Sort of numbers that lie in an array of one's own. -/
theorem sortAll_calls (Γ : Nat → Option (List AV)) (i c : Nat) (T : TypeId) (l : List Int) (pad : List AV) (h : AH) (hi : h[i]? = some (.row (encI l ++ pad) T)) (hl : l.length ≤ 1000000000) :
    ACalls Try.prog Γ 80 [.ms i 0 l.length c 1] h fun v h' => v = .tuple [] ∧ h' = h.set i (.row (encI (sortI l) ++ pad) T) := by
  have := acalls_sort_int (Γ := Γ) Try.lays189 (f := 80) (by kernel_rfl) (enters_of Try.func80 (by kernel_rfl) rfl) i c T l pad h hi (by omega)
  rw [sortI_merge] at this
  exact this
end Go.Proofs.Ytelehpccfaedjaa

/- The library's sort with a comparison, whatever the length, of lists of numbers: from the shelf's contract to abstract values. It says nothing of any program; no conditions. -/
set_option linter.unusedSimpArgs false
set_option linter.unusedVariables false
namespace Go.Abs
open Go Go.RowKit Go.Sort Go.Shelf

def encL1 (l : List Int) : AV := .sl (l.map fun x => .int .i64 x) .free
/-- A slice value whose numbers lie in cells that stay as they are. -/
abbrev FixL (F : Nat → Nat → Option Value) : Type := { p : Value × List Int // p.2.length ≤ 1000000 ∧ ∀ G : Gh, G.F = F → VR G (encL1 p.2) p.1 }
theorem fix_of {G : Gh} {l : List Int} {v : Value} (h : VR G (encL1 l) v) : ∀ G' : Gh, G'.F = G.F → VR G' (encL1 l) v := fun G' e => by
  unfold encL1 at *
  cases h with
  | sl vals hcap hnil hsz hF hv hown =>
    refine .sl vals hcap hnil hsz (fun k r j c e1 e2 => ?_) (fun k r j c e1 e2 => ?_) trivial
    · obtain ⟨b, o, q1, q2⟩ := hF k r j c e1 e2
      exact ⟨b, o, q1, by rw [e]; exact q2⟩
    · have := hv k r j c e1 e2
      rw [List.getElem?_map] at e1
      obtain ⟨x, _, rfl⟩ := Option.map_eq_some_iff.1 e1
      cases j with
      | zero =>
        simp only [AV.cells, List.getElem?_cons_zero, Option.some.injEq] at e2
        subst e2
        generalize vals k 0 = u at this ⊢
        cases this
        exact .int _ _
      | succ j => simp [AV.cells] at e2
instance (F : Nat → Nat → Option Value) : Inhabited (FixL F) := ⟨⟨(.slice none 0 0, []), by simp, fun G _ => by
  have := VR.sl (G := G) (rows := []) (own := .free) (a := none) (cap := 0) (sz := 1) (fun _ _ => undef) (by simp) (by simp) (by simp) (by simp) (by simp) trivial
  exact this⟩⟩
theorem one_of {G : Gh} {l : List Int} {v : Value} (h : VR G (encL1 l) v) : v.oneCell' = true := by
  unfold encL1 at h
  cases h with
  | sl => rfl
/-- The ghost of a call that looks at what stays as it is, and at nothing else. -/
def Gh.look (G : Gh) (W : World) : Gh := { w0 := W, ρ := fun _ => none, F := G.F, ar := fun _ => none, lpD := fun _ => none, ds := fun _ => False }
theorem Inv.look {G : Gh} {W : World} (hfix : ∀ b o v, G.F b o = some v → W.cell? ⟨b, o, none⟩ = some v) : Inv (fun _ => none) (G.look W) [] W where
  below := Below.refl _ _
  drw := Nat.le_refl _
  fix := hfix
  obj := fun i ob e => by simp at e
  domρ := fun i b e => by cases e
  domA := fun i b e => by cases e
  inj := fun i j b e => by cases e
  base := fun i b e => by cases e
  sep := fun i b o v _ e => by cases e
  arB := fun i r b c sz T e => by cases e
  arI := fun i j r r' b c sz T c' sz' T' e => by cases e
  lp := fun b D e => by cases e
  lpB := fun b D e => by cases e
  dsI := fun D e => e.elim
  glob := fun g cs e => by cases e
theorem grown_of {W w' : World} (hb : Below W.heap.size W w') (hd : W.drawn ≤ w'.drawn) : ∃ q os', w' = grow (W.drewN q) os' := by
  refine ⟨w'.drawn - W.drawn, w'.heap.extract W.heap.size w'.heap.size, ?_⟩
  obtain ⟨h1, h2, h3, h4, h5⟩ := hb
  obtain ⟨heap, tape, drawn, os, output⟩ := w'
  simp only at h1 h2 h3 h4 h5 hd
  subst h1 h2 h3
  simp only [grow, World.drewN]
  congr 1
  · apply Array.ext_getElem?
    intro k
    rw [Array.getElem?_append]
    split
    · rename_i hk; exact h5 k hk
    · rename_i hk
      rw [Array.getElem?_extract]
      split
      · congr 1; omega
      · rw [Array.getElem?_eq_none]; omega
  · omega
end Go.Abs

/- The library's sort with a comparison, of lists of numbers: as abstract values. It says nothing of any program; no conditions. -/
set_option linter.unusedSimpArgs false
set_option linter.unusedVariables false
namespace Go.Abs
open Go Go.RowKit Go.Sort Go.Shelf

theorem perm_all {α : Type} [Inhabited α] {d d' : Array α} (h : PermIn 0 d.size d d') : d'.toList.Perm d.toList := by
  obtain ⟨h1, _, h3⟩ := h
  have e1 : d'.extract 0 d.size = d' := by rw [← h1]; simp
  have e2 : d.extract 0 d.size = d := by simp
  rwa [e1, e2] at h3
theorem acalls_sort_func {P : Program} {ρ : Ren} {Γ : Nat → Option (List AV)} (L : Go.Proofs.SlLaysF.n6 P ρ) {f : FuncId} (hf : ρ.f 6 = f) (he : ∀ vs w, (callFunc f vs).run P w = .ok (.enter f vs) w) {g : FuncId} (eg : ∀ vs w, (callFunc g vs).run P w = .ok (.enter g vs) w)
    (cf : List Int → List Int → Int) (hO : SWO fun x y => decide (cf x y < 0)) (hc : ∀ x y : List Int, x.length ≤ 1000000 → y.length ≤ 1000000 → ACalls P (fun _ => none) g [encL1 x, encL1 y] [] fun v h' => h' = [] ∧ v = .int .i64 (cf x y))
    (i c : Nat) (T : TypeId) (xs : List (List Int)) (pad : List AV) (h : AH) (hi : h[i]? = some (.row (xs.map encL1 ++ pad) T)) (hl : xs.length < 4611686018427387904) (hbd : ∀ x ∈ xs, x.length ≤ 1000000) :
    ACalls P Γ f [.ms i 0 xs.length c 1, .func g [] []] h fun v h' => v = .tuple [] ∧ ∃ xs' : List (List Int), xs'.Perm xs ∧ xs'.Pairwise (fun a b => ¬ cf b a < 0) ∧ h' = h.set i (.row (xs'.map encL1 ++ pad) T) := by
  subst hf
  refine ⟨he, fun G w vs hI hv => ?_⟩
  obtain ⟨b, vals, h1, h2, h3⟩ := hI.row hi
  obtain ⟨u, u2, rfl, hu, hu2⟩ : ∃ u u2, vs = #[u, u2] ∧ VR G (.ms i 0 xs.length c 1) u ∧ VR G (.func g [] []) u2 := by
    obtain ⟨k1, k2⟩ := hv
    match vs, k1 with
    | ⟨[u, u2]⟩, _ => exact ⟨u, u2, rfl, k2 0 _ rfl, k2 1 _ rfl⟩
  cases hu with
  | ms hb =>
  rw [h1] at hb; cases hb
  cases hu2 with
  | @func _ _ _ first captured hf1 hc1 _ _ =>
  have e1 : first = #[] := by simpa using hf1.symm
  have e2 : captured = #[] := by simpa using hc1.symm
  subst e1 e2
  have hval : ∀ j, (hj : j < xs.length) → ∃ v, vals[j]? = some v ∧ VR G (encL1 xs[j]) v := fun j hj => by
    have e : (xs.map encL1 ++ pad)[j]? = some (encL1 xs[j]) := by
      rw [List.getElem?_append_left (by simpa using hj), List.getElem?_map, List.getElem?_eq_getElem hj]; rfl
    exact h3.get e
  obtain ⟨d, hd1, hd2⟩ : ∃ d : Array (FixL G.F), d.toList.map (fun x => x.1.2) = xs ∧ ∀ j, (hj : j < d.size) → vals[j]? = some (d[j]!).1.1 := by
    refine ⟨Array.ofFn fun j : Fin xs.length => ⟨((hval j.1 j.2).choose, xs[j.1]), hbd _ (List.getElem_mem _), fix_of (hval j.1 j.2).choose_spec.2⟩, ?_, fun j hj => ?_⟩
    · apply List.ext_getElem
      · simp
      · intro j h1 h2; simp
    · rw [getElem!_pos _ j hj, Array.getElem_ofFn]
      exact (hval j (by simpa using hj)).choose_spec.1
  have hds : d.size = xs.length := by rw [← hd1]; simp
  have hfx : ∀ (W : World), (∀ b' o v, G.F b' o = some v → W.cell? ⟨b', o, none⟩ = some v) → ∀ x y : FixL G.F,
      Calls P g #[x.1.1, y.1.1] W fun e w' => e = .returned (.int .i64 (cf x.1.2 y.1.2)) ∧ ∃ q os', w' = grow (W.drewN q) os' := fun W hW x y => by
    refine ((hc x.1.2 y.1.2 x.2.1 y.2.1).2 (G.look W) W #[x.1.1, y.1.1] (Inv.look hW) ⟨rfl, fun j a e => ?_⟩).mono ?_
    · match j, e with
      | 0, e => cases e; exact x.2.2 _ rfl
      | 1, e => cases e; exact y.2.2 _ rfl
    · rintro e w' ⟨v, G', av, h', rfl, k1, k2, k3, rfl, rfl⟩
      cases k3
      have hw0 := k1.w0
      refine ⟨rfl, grown_of ?_ ?_⟩
      · have := k2.below; rw [hw0] at this; exact this
      · have := k2.drw; rw [hw0] at this; exact this
  have hone : Go.Proofs.OneCell fun x : FixL G.F => x.1.1 := fun x => one_of (x.2.2 G rfl)
  have hO' : SWO (Go.Proofs.ltOf fun x y : FixL G.F => cf x.1.2 y.1.2) := ⟨fun x => hO.irrefl _, fun x y z => hO.trans _ _ _, fun x y z => hO.ntrans _ _ _⟩
  have key := Go.Proofs.Any.slices_SortFunc L (fun x : FixL G.F => x.1.1) hone (fun x y => cf x.1.2 y.1.2) hO' g #[] b 0 c d w eg
    (fun m os dk hs x y => by
      refine hfx _ (fun b' o v e => ?_) x y
      have hne : b' ≠ b := fun e' => by subst e'; exact hI.sep i b' o v (by rw [hi]; simp) h1 e
      have hlt := hI.F_lt e
      rw [← hI.fix b' o v e]
      refine cell_eq ?_
      show (grow (Go.Sort.putRow _ (Go.Sort.ahead w m) b 0 dk) os).heap[b']? = _
      simp only [grow, Go.Sort.putRow, mapBlock]
      rw [Array.getElem?_append_left (by simpa using hlt), Array.getElem?_modify, if_neg (fun e' => hne e'.symm)]
      rfl)
    (fun j hj => ⟨by rw [cell_of h2, Nat.zero_add]; exact hd2 j hj, by simp [World.frozen?, h2]⟩) (lt_of_heap h2) (by omega)
  rw [hds] at key
  refine key.mono ?_
  rintro e w' ⟨rfl, d', n, os, q1, q2, rfl⟩
  rw [← hds] at q1 q2
  have hp := perm_all q1
  refine ⟨_, G, .tuple [], _, rfl, Gh.le.refl G, hI.sorted (fun x : FixL G.F => x.1.1) (fun x => encL1 x.1.2) (d' := d') (pad := pad) hi h1 h2 h3 ?_ (fun j => ?_) (fun x _ => x.2.2 G rfl) n os, .tuple (by simp) (by simp), rfl, d'.toList.map (fun x => x.1.2), ?_, ?_, ?_⟩
  · have := q1.1; simp; omega
  · have := q1.1
    rw [List.getElem?_append_right (by simp; omega)]
    congr 1
    simp; omega
  · rw [← hd1]; exact hp.map _
  · rw [List.pairwise_map, List.pairwise_iff_getElem]
    intro a b' ha hb' hab
    have := q2 a b' (Nat.zero_le _) hab (by have := q1.1; simp at hb'; omega)
    simp at ha hb'
    rw [getElem!_pos d' b' hb', getElem!_pos d' a ha] at this
    simpa [Go.Proofs.ltOf] using this
  · simp [List.map_map, Function.comp_def]
end Go.Abs

/- Lists of people in order: the program's comparison, the library's sort with it. No conditions. -/
set_option linter.unusedSimpArgs false
set_option linter.unusedVariables false
namespace Go.Proofs.Ytelehpccfaedjaa
open Go Go.Proofs Go.Abs

set_option maxRecDepth 100000 in
theorem isnan2_calls (Γ : Nat → Option (List AV)) (x : Int) (h : AH) : ACalls Try.prog Γ 155 [.int .i64 x] h fun v h' => h' = h ∧ v = .bool false := isnan_calls Γ x h
def cmpI (x y : Int) : Int := if x < y then -1 else if y < x then 1 else 0
set_option maxRecDepth 100000 in
theorem cmpI_calls (Γ : Nat → Option (List AV)) (x y : Int) (h : AH) : ACalls Try.prog Γ 149 [.int .i64 x, .int .i64 y] h fun v h' => h' = h ∧ v = .int .i64 (cmpI x y) := by
  refine acalls_code (rs := [.tmp 4]) Try.func149 rfl rfl rfl rfl Ty.mixed (by kernel_rfl) ?_
  simp (disch := omega) only [go_sem, seval]
  refine ACalls.det (isnan_calls Γ x _) ?_
  simp (disch := omega) only [go_sem, seval]
  refine ACalls.det (isnan_calls Γ y _) ?_
  simp (disch := omega) only [go_sem, seval]
  refine aIf.intro (fun h1 => ?_) (fun h1 => ?_) <;> simp (disch := omega) only [go_sem, seval]
  · simp [cmpI, h1]
  refine aIf.intro (fun h2 => ?_) (fun h2 => ?_) <;> simp (disch := omega) only [go_sem, seval]
  · simp [cmpI, h1, h2]
  · simp [cmpI, h1, h2]
def lexF : List Int → List Int → Int
  | [], [] => 0
  | [], _ :: _ => -1
  | _ :: _, [] => 1
  | x :: a, y :: b => if x < y then -1 else if y < x then 1 else lexF a b
set_option maxRecDepth 100000 in
theorem lex_calls (Γ : Nat → Option (List AV)) (a b : List Int) (h : AH) (ha : a.length ≤ 1000000) (hb : b.length ≤ 1000000) :
    ACalls Try.prog Γ 126 [.sl (encI a) .free, .sl (encI b) .free] h fun v h' => h' = h ∧ v = .int .i64 (lexF a b) := by
  refine ACalls.drop ?_
  refine acalls_code (rs := [.tmp 4]) Try.func126 rfl rfl rfl rfl Ty.mixed (by kernel_rfl) ?_
  simp (disch := omega) only [go_sem, seval, encI_len]
  refine awp_loopL (β := Unit) a [0, 1, 9, 10, 11] (fun don _ => [(0, .sl (encI a) .free), (1, .sl (encI b) .free), (9, .sl (encI a) .free), (10, .int .i64 a.length), (11, .int .i64 don.length)]) (fun _ => h) (fun don rest _ => don.length ≤ b.length ∧ lexF a b = lexF rest (b.drop don.length)) () ?_ rfl ⟨by simp, by simp⟩ Ty.mixed (by kernel_rfl) ?_ ?_
  · simp (disch := omega) only [go_sem, seval, encI_len]
  · rintro don x r _ rfl ⟨hle, hx⟩
    have hl3 := len_mid ha
    have e1 : (encI (don ++ x :: r))[don.length]? = some (.int .i64 x) := by simp [encI]
    simp (disch := omega) only [go_sem, seval, encI_len, List.length_append, List.length_cons]
    refine aIf.pos (by omega) ?_
    simp (disch := omega) only [go_sem, seval, encI_len, List.length_append, List.length_cons, e1]
    by_cases hlb : don.length = b.length
    · refine aIf.pos (by omega) ?_
      simp (disch := omega) only [go_sem, seval]
      rw [hx, hlb, List.drop_length]
      rfl
    · refine aIf.neg (by omega) ?_
      obtain ⟨d2, y, r2, rfl, hd⟩ : ∃ d2 y r2, b = d2 ++ y :: r2 ∧ d2.length = don.length := by
        refine ⟨b.take don.length, b[don.length]'(by omega), b.drop (don.length + 1), ?_, by simp; omega⟩
        rw [List.getElem_cons_drop, List.take_append_drop]
      have e2 : (encI (d2 ++ y :: r2))[don.length]? = some (.int .i64 y) := by rw [← hd]; simp [encI]
      have e3 : (d2 ++ y :: r2).drop don.length = y :: r2 := by rw [← hd, List.drop_left]
      have e4 : (d2 ++ y :: r2).drop (don.length + 1) = r2 := by rw [← hd]; simp
      rw [e3, lexF] at hx
      simp (disch := omega) only [go_sem, seval, encI_len, List.length_append, List.length_cons, e1, e2]
      refine ACalls.det (cmpI_calls Γ x y _) ?_
      simp (disch := omega) only [go_sem, seval, encI_len, List.length_append, List.length_cons]
      by_cases hxy : x < y
      · rw [if_pos hxy] at hx
        rw [cmpI, if_pos hxy]
        simp (disch := omega) only [go_sem, seval]
        rw [hx]
      · rw [if_neg hxy] at hx
        by_cases hyx : y < x
        · rw [if_pos hyx] at hx
          rw [cmpI, if_neg hxy, if_pos hyx]
          simp (disch := omega) only [go_sem, seval]
          rw [hx]
        · rw [if_neg hyx] at hx
          rw [cmpI, if_neg hxy, if_neg hyx]
          simp (disch := omega) only [go_sem, seval]
          refine roundL_next () ⟨?_, ?_⟩ ?_ rfl
          · simp; omega
          · rw [hx, List.length_append, List.length_cons, List.length_nil, e4]
          · simp (disch := omega) only [go_sem, seval, List.length_append, encI_len]
  · intro _ ⟨hle, hx⟩
    simp (disch := omega) only [go_sem, seval, encI_len]
    refine AWP.keep [0, 1] (aCode_ok Ty.mixed _ _ _ _ (by kernel_rfl) ?_)
    simp (disch := omega) only [go_sem, seval, encI_len]
    by_cases hlt : a.length < b.length
    · refine aIf.pos (by omega) ?_
      simp (disch := omega) only [go_sem, seval]
      obtain ⟨y, r, he⟩ : ∃ y r, b.drop a.length = y :: r := by
        cases hd : b.drop a.length with
        | nil => have := List.drop_eq_nil_iff.1 hd; omega
        | cons y r => exact ⟨y, r, rfl⟩
      rw [hx, he]; rfl
    · refine aIf.neg (by omega) ?_
      simp (disch := omega) only [go_sem, seval]
      rw [hx, List.drop_of_length_le (by omega)]; rfl
def cmpF (a b : List Int) : Int := if a.length = b.length then lexF a b else (a.length : Int) - b.length
set_option maxRecDepth 100000 in
theorem cmpF_calls (Γ : Nat → Option (List AV)) (a b : List Int) (h : AH) (ha : a.length ≤ 1000000) (hb : b.length ≤ 1000000) :
    ACalls Try.prog Γ 104 [.sl (encI a) .free, .sl (encI b) .free] h fun v h' => h' = h ∧ v = .int .i64 (cmpF a b) := by
  refine ACalls.drop ?_
  refine acalls_code (rs := [.tmp 4]) Try.func104 rfl rfl rfl rfl Ty.mixed (by kernel_rfl) ?_
  simp (disch := omega) only [go_sem, seval, encI_len]
  by_cases hab : a.length = b.length
  · refine aIf.pos (by omega) ?_
    simp (disch := omega) only [go_sem, seval]
    refine ACalls.det (lex_calls Γ a b _ ha hb) ?_
    simp (disch := omega) only [go_sem, seval]
    rw [cmpF, if_pos hab]
  · refine aIf.neg (by omega) ?_
    simp (disch := omega) only [go_sem, seval, encI_len]
    rw [cmpF, if_neg hab]

/-! ### The order -/
theorem lex_bef : ∀ a b : List Int, a.length = b.length → (lexF a b < 0 ↔ befF a b = true) ∧ (lexF a b = 0 ↔ a = b) ∧ (lexF b a < 0 ↔ 0 < lexF a b)
  | [], [], _ => by simp [lexF, befF]
  | [], _ :: _, h => by simp at h
  | _ :: _, [], h => by simp at h
  | x :: a, y :: b, h => by
    have ih := lex_bef a b (by simpa using h)
    rw [lexF, lexF, befF]
    by_cases h1 : x < y
    · simp [h1, show ¬ y < x by omega, show x ≠ y by omega]
    · by_cases h2 : y < x
      · simp [h1, h2, show x ≠ y by omega]
      · have : x = y := by omega
        subst this
        simp only [Int.lt_irrefl, if_false, if_true, List.cons.injEq, true_and]
        exact ih
theorem lex_trans : ∀ a b c : List Int, a.length = b.length → b.length = c.length → befF a b = true → befF b c = true → befF a c = true
  | [], _, _, _, _, h, _ => by simp [befF] at h
  | _ :: _, [], _, h, _, _, _ => by simp at h
  | _ :: _, _ :: _, [], _, h, _, _ => by simp at h
  | x :: a, y :: b, z :: c, h1, h2, h3, h4 => by
    rw [befF] at h3 h4 ⊢
    split at h3
    · rename_i e1; subst e1
      split at h4
      · rename_i e2; rw [if_pos e2]; exact lex_trans a b c (by simpa using h1) (by simpa using h2) h3 h4
      · rename_i e2; rw [if_neg e2]; exact h4
    · rename_i e1
      simp at h3
      split at h4
      · rename_i e2; subst e2; rw [if_neg e1]; simpa using h3
      · simp at h4; rw [if_neg (by omega)]; simp; omega
theorem cmp_bef (a b : List Int) : cmpF a b < 0 ↔ beforeF a b = true := by
  unfold cmpF beforeF
  split
  · rename_i h; exact (lex_bef a b h).1
  · simp; omega
theorem before_trans {a b c : List Int} (h1 : beforeF a b = true) (h2 : beforeF b c = true) : beforeF a c = true := by
  unfold beforeF at *
  split at h1
  · rename_i e1
    split at h2
    · rename_i e2; rw [if_pos (by omega)]; exact lex_trans a b c e1 e2 h1 h2
    · simp at h2; rw [if_neg (by omega)]; simp; omega
  · simp at h1
    split at h2
    · rw [if_neg (by omega)]; simp; omega
    · simp at h2; rw [if_neg (by omega)]; simp; omega
theorem before_total {a b : List Int} (h1 : beforeF a b = false) (h2 : beforeF b a = false) : a = b := by
  have h3 : ¬ cmpF a b < 0 := fun e => by rw [(cmp_bef a b).1 e] at h1; cases h1
  have h4 : ¬ cmpF b a < 0 := fun e => by rw [(cmp_bef b a).1 e] at h2; cases h2
  unfold cmpF at h3 h4
  split at h3
  · rename_i e
    rw [if_pos e.symm] at h4
    have := lex_bef a b e
    by_cases h5 : 0 < lexF a b
    · exact absurd (this.2.2.2 h5) h4
    · exact this.2.1.1 (by omega)
  · rename_i e; rw [if_neg (fun k => e k.symm)] at h4; omega
theorem before_irr (a : List Int) : beforeF a a = false := by
  unfold beforeF; rw [if_pos rfl]; exact bef_irr a
theorem cmp_swo : Go.Sort.SWO fun x y => decide (cmpF x y < 0) := by
  have e : (fun x y => decide (cmpF x y < 0)) = beforeF := by
    funext x y
    rw [Bool.eq_iff_iff, decide_eq_true_eq]
    exact cmp_bef x y
  rw [e]
  refine ⟨before_irr, fun x y z => before_trans, fun x y z h1 h2 => ?_⟩
  cases h3 : beforeF x z with
  | false => rfl
  | true =>
    cases h4 : beforeF y x with
    | true => rw [before_trans h4 h3] at h2; cases h2
    | false =>
      have := before_total h1 h4
      subst this
      rw [h3] at h2; cases h2
set_option maxRecDepth 100000 in
/-- slices.SortFunc of lists of people that lie in an array of one's own. -/
theorem sortFunc_calls (Γ : Nat → Option (List AV)) (i c : Nat) (T : TypeId) (xs : List (List Int)) (pad : List AV) (h : AH) (hi : h[i]? = some (.row (encII xs ++ pad) T)) (hl : xs.length ≤ 1000000000) (hb : ∀ x ∈ xs, x.length ≤ 1000000) :
    ACalls Try.prog Γ 103 [.ms i 0 xs.length c 1, .func 104 [] []] h fun v h' => v = .tuple [] ∧ ∃ xs', xs'.Perm xs ∧ xs'.Pairwise (fun a b => beforeF b a = false) ∧ h' = h.set i (.row (encII xs' ++ pad) T) := by
  refine (acalls_sort_func (Γ := Γ) Try.laysSlF6_f103 (f := 103) (by kernel_rfl) (enters_of Try.func103 (by kernel_rfl) rfl) (g := 104) (enters_of Try.func104 (by kernel_rfl) rfl)
    cmpF cmp_swo (fun x y hx hy => cmpF_calls _ x y [] hx hy) i c T xs pad h hi (by omega) hb).mono ?_
  rintro v h' ⟨rfl, xs', h1, h2, h3⟩
  refine ⟨rfl, xs', h1, h2.imp fun {a b} hab => ?_, h3⟩
  cases h4 : beforeF b a with
  | false => rfl
  | true => exact absurd ((cmp_bef b a).2 h4) hab
end Go.Proofs.Ytelehpccfaedjaa

/- The library's Compact of numbers: from the shelf's contract to abstract values. It says nothing of any program; no conditions. -/
set_option linter.unusedSimpArgs false
set_option linter.unusedVariables false
namespace Go.Abs
open Go Go.RowKit Go.Sort Go.Shelf

theorem compact_le (l : List Int) : (Go.Lib.compact l).length ≤ l.length := by
  have := List.length_filter_le (Go.Lib.keeps l.toArray) (List.range l.length)
  simpa [Go.Lib.compact, Go.Lib.compactUpTo] using this
theorem acalls_compact {P : Program} {ρ : Ren} {Γ : Nat → Option (List AV)} (L : Go.Proofs.Lays2.n20 P ρ) {f : FuncId} (hf : ρ.f 20 = f) (he : ∀ vs w, (callFunc f vs).run P w = .ok (.enter f vs) w) (i c : Nat) (T : TypeId) (l : List Int) (pad : List AV) (h : AH)
    (hi : h[i]? = some (.row (l.map (fun x => AV.int .i64 x) ++ pad) T)) (hl : l.length ≤ 9223372036854775807) (hc : l.length ≤ c) :
    ACalls P Γ f [.ms i 0 l.length c 1] h fun v h' => v = .ms i 0 (Go.Lib.compact l).length c 1 ∧ h' = h.set i (.row ((Go.Lib.compact l ++ List.replicate (l.length - (Go.Lib.compact l).length) 0).map (fun x => AV.int .i64 x) ++ pad) T) := by
  subst hf
  refine ⟨he, fun G w vs hI hv => ?_⟩
  obtain ⟨b, vals, h1, h2, h3⟩ := hI.row hi
  obtain ⟨u, rfl, hu⟩ : ∃ u, vs = #[u] ∧ VR G (.ms i 0 l.length c 1) u := by
    obtain ⟨k1, k2⟩ := hv
    match vs, k1 with
    | ⟨[u]⟩, _ => exact ⟨u, rfl, k2 0 _ rfl⟩
  cases hu with
  | ms hb =>
    rw [h1] at hb; cases hb
    have hval : ∀ j, j < l.length → vals[j]? = some (Value.int .i64 l[j]!) := fun j hj => by
      have e : (l.map (fun x => AV.int .i64 x) ++ pad)[j]? = some (.int .i64 l[j]!) := by
        rw [List.getElem?_append_left (by simpa using hj), List.getElem?_map, List.getElem?_eq_getElem hj, getElem!_pos l j hj]; rfl
      obtain ⟨v, q1, q2⟩ := h3.get e
      cases q2
      exact q1
    refine (Go.Proofs.Any.slices_Compact_int L b 0 c l w (fun j hj => ?_) hl hc).mono ?_
    · have hj' : j < l.length := by simpa using hj
      refine ⟨?_, ?_⟩
      · rw [cell_of h2, Nat.zero_add, hval j hj']; simp [hj']
      · simp [World.frozen?, h2]
    · rintro e w' ⟨rfl, n, rfl⟩
      have hcl := compact_le l
      have key := hI.sorted (Value.int .i64) (fun x => .int .i64 x) (d' := (Go.Lib.compact l ++ List.replicate (l.length - (Go.Lib.compact l).length) 0).toArray) (pad := pad) hi h1 h2 h3 (by simp; omega) (fun j => ?_) (fun x _ => .int _ _) n #[]
      · rw [grow_empty] at key
        exact ⟨_, G, .ms i 0 (Go.Lib.compact l).length c 1, _, rfl, Gh.le.refl G, key, .ms h1, rfl, by simp⟩
      · rw [List.getElem?_append_right (by simp; omega)]
        congr 1
        simp; omega
theorem acalls_compact0 {P : Program} {ρ : Ren} {Γ : Nat → Option (List AV)} (L : Go.Proofs.Lays2.n20 P ρ) {f : FuncId} (hf : ρ.f 20 = f) (he : ∀ vs w, (callFunc f vs).run P w = .ok (.enter f vs) w) (h : AH) :
    ACalls P Γ f [.sl [] .full] h fun v h' => h' = h ∧ v = .sl [] .full := by
  subst hf
  refine ⟨he, fun G w vs hI hv => ?_⟩
  obtain ⟨u, rfl, hu⟩ : ∃ u, vs = #[u] ∧ VR G (.sl [] .full) u := by
    obtain ⟨k1, k2⟩ := hv
    match vs, k1 with
    | ⟨[u]⟩, _ => exact ⟨u, rfl, k2 0 _ rfl⟩
  obtain ⟨a, cap, rfl⟩ : ∃ a cap, u = .slice a 0 cap := by
    cases hu with
    | sl => exact ⟨_, _, rfl⟩
  refine (Go.Proofs.Any.slices_Compact_int_empty L a cap w).mono ?_
  rintro e w' ⟨rfl, rfl⟩
  exact ⟨_, G, .sl [] .full, _, rfl, Gh.le.refl G, hI, hu, rfl, rfl⟩

/-! ### What Compact leaves of a list in order -/
theorem compact_up (d : Array Int) (hs : ∀ i j, i ≤ j → j < d.size → d[i]! ≤ d[j]!) : ∀ m, m ≤ d.size → (Go.Lib.compactUpTo d m).Pairwise (· < ·) ∧ (∀ x, x ∈ Go.Lib.compactUpTo d m ↔ ∃ j, j < m ∧ x = d[j]!)
  | 0, _ => by simp [Go.Lib.compactUpTo]
  | m + 1, hm => by
    obtain ⟨h1, h2⟩ := compact_up d hs m (by omega)
    rw [Go.Lib.compactUpTo_succ]
    by_cases hk : Go.Lib.keeps d m = true
    · rw [if_pos hk]
      simp only [Go.Lib.keeps, decide_eq_true_eq] at hk
      refine ⟨?_, fun x => ?_⟩
      · rw [List.pairwise_append]
        refine ⟨h1, by simp, fun a ha b hb => ?_⟩
        simp at hb; subst hb
        obtain ⟨j, hj, rfl⟩ := (h2 a).1 ha
        have h3 := hs j (m - 1) (by omega) (by omega)
        have h4 := hs (m - 1) m (by omega) (by omega)
        rcases hk with hk | hk
        · omega
        · omega
      · rw [List.mem_append, h2]
        constructor
        · rintro (⟨j, hj, e⟩ | hx)
          · exact ⟨j, by omega, e⟩
          · simp at hx; exact ⟨m, by omega, hx⟩
        · rintro ⟨j, hj, e⟩
          by_cases hjm : j = m
          · subst hjm; exact .inr (by simp [e])
          · exact .inl ⟨j, by omega, e⟩
    · rw [if_neg hk, List.append_nil]
      simp only [Go.Lib.keeps, decide_eq_true_eq, not_or, Decidable.not_not] at hk
      refine ⟨h1, fun x => ?_⟩
      rw [h2]
      constructor
      · rintro ⟨j, hj, e⟩; exact ⟨j, by omega, e⟩
      · rintro ⟨j, hj, e⟩
        by_cases hjm : j = m
        · subst hjm; exact ⟨j - 1, by omega, by rw [e, hk.2]⟩
        · exact ⟨j, by omega, e⟩
theorem compact_sorted {l : List Int} (hl : l.Pairwise (· ≤ ·)) : (Go.Lib.compact l).Pairwise (· < ·) ∧ ∀ x, x ∈ Go.Lib.compact l ↔ x ∈ l := by
  have h := compact_up l.toArray (fun i j hij hj => by
    have hj' : j < l.length := by simpa using hj
    have hi' : i < l.length := by omega
    rw [getElem!_pos _ i (by simpa using hi'), getElem!_pos _ j hj]
    rcases Nat.lt_or_ge i j with h | h
    · exact (List.pairwise_iff_getElem.1 hl) i j hi' hj' h
    · have : i = j := by omega
      subst this; exact Int.le_refl _) l.length (by simp)
  refine ⟨h.1, fun x => ?_⟩
  have := h.2 x
  rw [show Go.Lib.compact l = Go.Lib.compactUpTo l.toArray l.length from rfl, this, List.mem_iff_getElem]
  constructor
  · rintro ⟨j, hj, e⟩
    refine ⟨j, hj, ?_⟩
    rw [getElem!_pos _ j (by simpa using hj)] at e
    simpa using e.symm
  · rintro ⟨j, hj, e⟩
    refine ⟨j, hj, ?_⟩
    rw [getElem!_pos _ j (by simpa using hj)]
    simpa using e.symm
end Go.Abs
