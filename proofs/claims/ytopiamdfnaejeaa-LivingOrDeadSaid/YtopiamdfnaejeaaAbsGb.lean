/- More of the model's operations, seen abstractly: writing into a map, made slices. It says nothing of any program; no conditions. -/
import Derived.Test.YtopiamdfnaejeaaAbsG
set_option linter.unusedSimpArgs false
set_option linter.unusedVariables false
namespace Go.Abs
open Go Go.RowKit

section
variable {P : Program} {Γ : Nat → Option (List AV)} {G : Gh} {h : AH} {w : World} {N : Nat} {σ : Tm}

theorem run_setObj' {b : Nat} {es : Array MapEntry} {c : Nat} {o : Obj} (hb : w.heap[b]? = some (.map es c)) : (setObj b o).run P w = .ok () (w.putObj b o) := by
  simp [setObj, Sem.run, hb, World.putObj]

theorem ba_eq (a b : ByteArray) : (a == b) = true ↔ a = b := by
  obtain ⟨a⟩ := a
  obtain ⟨b⟩ := b
  show (a == b) = true ↔ _
  rw [beq_iff_eq]
  exact ⟨fun h => by rw [h], fun h => by cases h; rfl⟩

/-- A map's new entry, or an entry anew. -/
def putEnt (ents : List (Nat × AV × AV)) (clk : Nat) (k x : AV) : Option Nat → Option AObj
  | none => some (.map (ents ++ [(clk, k, x)]) (clk + 1))
  | some j => (ents[j]?).map fun e => .map (ents.set j (e.1, k, x)) clk

/-- Writing into a map of one's own. -/
def aMapUpdate (P : Program) (t : TypeId) (m k x : AV) (h : AH) (K : AH → Prop) : Prop :=
  match P.underlying t with
  | some (.map kt _) => (match P.underlying kt with
    | some kd => keyFits kd k = true ∧ (match m with
      | .map (some i) => (match h[i]? with
        | some (.map ents clk) => (match (aFind k ents).bind (putEnt ents clk k x) with
          | some ob => K (h.set i ob)
          | none => False)
        | _ => False)
      | _ => False)
    | none => False)
  | _ => False

/-- A write to a map's block. -/
theorem Inv.setMap (hI : Inv Γ G h w) {i b : Nat} (hb : G.ρ i = some b) {es0 : Array MapEntry} {c0 : Nat} (hw : w.heap[b]? = some (.map es0 c0)) {ents : List (Nat × AV × AV)} {es : Array MapEntry} {clk : Nat}
    (hl : ents.length = es.size) (hv : ∀ (j : Nat) (e : Nat × AV × AV) (x : MapEntry), ents[j]? = some e → es[j]? = some x → x.born = e.1 ∧ VR G e.2.1 x.key ∧ VR G e.2.2 x.val) (hfz : h[i]? ≠ some .frozen) :
    Inv Γ G (h.set i (.map ents clk)) (w.putObj b (.map es clk)) := by
  have hlt := lt_of_heap hw
  have hnew : (w.putObj b (.map es clk)).heap[b]? = some (.map es clk) := by simp [World.putObj, hlt]
  refine hI.write (w' := w.putObj b (.map es clk)) hb (by simp [World.putObj]) rfl rfl rfl (fun k hk => World.putObj_heap_other hk) _ ⟨b, es, hb, hnew, hl, hv⟩ (fun D hD => ?_) (by rw [hw]; simp) hfz
  obtain ⟨l, e1, _⟩ := hI.lp b D hD
  rw [hw] at e1; cases e1

theorem sameBits_key {kd : TypeDesc} {k k' : AV} {u u' : Value} (hk : VR G k u) (hk' : VR G k' u') (hf : keyFits kd k = true) {ents : List (Nat × AV × AV)} {j : Nat} {e : Nat × AV × AV} (hr : aFind k ents = some (some j)) (he : ents[j]? = some e) (hke : k' = e.2.1) :
    Instr.sameBits 10000 u' u = true := by
  induction ents generalizing j with
  | nil => simp [aFind] at hr
  | cons a ents ih =>
    obtain ⟨b, q, v⟩ := a
    unfold aFind at hr
    split at hr
    · rename_i p a q' c
      split at hr
      · rename_i hpq
        subst hpq
        split at hr
        · rename_i hac
          subst hac
          cases hr
          simp at he; subst he; subst hke
          rw [hk.int_inv, hk'.int_inv]
          simp [Instr.sameBits]
        · simp only [Option.map_eq_some_iff] at hr
          obtain ⟨r', h1, h2⟩ := hr
          cases r' with
          | none => simp at h2
          | some j' =>
            obtain ⟨_, h2, rfl⟩ := h2; cases h2
            exact ih h1 (by simpa using he)
      · cases hr
    · rename_i a c
      split at hr
      · rename_i hac
        have hac' : a = c := (ba_eq _ _).1 hac
        subst hac'
        cases hr
        simp at he; subst he; subst hke
        rw [hk.str_inv, hk'.str_inv]
        exact (ba_eq a a).2 rfl
      · simp only [Option.map_eq_some_iff] at hr
        obtain ⟨r', h1, h2⟩ := hr
        cases r' with
        | none => simp at h2
        | some j' =>
          obtain ⟨_, h2, rfl⟩ := h2; cases h2
          exact ih h1 (by simpa using he)
    · cases hr

theorem mapUpdate_ok (hI : Inv Γ G h w) {t : TypeId} {m k x : AV} {vm vk vx : Value} (hm : VR G m vm) (hk : VR G k vk) (hx : VR G x vx) {K : AH → Prop} (H : aMapUpdate P t m k x h K) : SemOKU P Γ G w (Instr.mapUpdate t vm vk vx) K := by
  unfold aMapUpdate at H
  split at H
  · rename_i kt et hd
    split at H
    · rename_i kd hkd
      obtain ⟨hf, H⟩ := H
      split at H
      · rename_i i
        split at H
        · rename_i ents clk hrow
          obtain ⟨b, es, k1, k2, k3, k4⟩ := hI.obj i _ hrow
          cases hm with
          | map hb =>
            rw [k1] at hb; cases hb
            have hkeys : ∀ (j : Nat) (e : Nat × AV × AV) (x : MapEntry), ents[j]? = some e → es.toList[j]? = some x → VR G e.2.1 x.key := fun j e x he hx => (k4 j e x he (by simpa using hx)).2.1
            split at H
            · rename_i ob hob
              rw [Option.bind_eq_some_iff] at hob
              obtain ⟨r, hr, hob⟩ := hob
              obtain ⟨q1, q2⟩ := findNow_ok (kd := kd) hk hf ents es.toList 0 (by simpa using k3) hkeys hr
              cases r with
              | none =>
                cases hob
                refine ⟨w.putObj b (.map (es.push { key := vk, val := vx, born := clk }) (clk + 1)), G, _, ?_, Gh.le.refl G, hI.setMap k1 k2 (by simp [k3]) (fun j e y he hy => ?_) (by rw [hrow]; simp), H⟩
                · simp [Instr.mapUpdate, run_underlying hd, run_getObj_map _ _ _ _ k2, checkKey_ok hkd hk hf, Instr.findKey, run_underlying hkd, q1, foundAt, run_setObj' k2]
                · rw [List.getElem?_append] at he
                  rw [Array.getElem?_push] at hy
                  by_cases hj : j < ents.length
                  · rw [if_pos hj] at he
                    rw [if_neg (by omega)] at hy
                    exact k4 j e y he hy
                  · rw [if_neg hj] at he
                    have hj0 : j - ents.length = 0 := by
                      have := (List.getElem?_eq_some_iff.1 he).1
                      simp at this; omega
                    rw [hj0] at he
                    simp at he; subst he
                    rw [if_pos (by omega)] at hy
                    cases hy
                    exact ⟨rfl, hk, hx⟩
              | some j =>
                simp only [putEnt, Option.map_eq_some_iff] at hob
                obtain ⟨e0, he0, rfl⟩ := hob
                have hj := q2 j rfl
                have hjs : j < es.size := by simpa using hj
                have hxj : es[j]? = some es[j] := Array.getElem?_eq_getElem hjs
                have hkey := (k4 j e0 _ he0 hxj).2.1
                have hsb := sameBits_key hk hkey hf hr he0 rfl
                refine ⟨w.putObj b (.map (es.modify j fun e => { e with key := vk, val := vx }) clk), G, _, ?_, Gh.le.refl G, hI.setMap k1 k2 (by simp [k3]) (fun j' e y he hy => ?_) (by rw [hrow]; simp), H⟩
                · simp [Instr.mapUpdate, run_underlying hd, run_getObj_map _ _ _ _ k2, checkKey_ok hkd hk hf, Instr.findKey, run_underlying hkd, q1, foundAt, hxj, Instr.keyThatStays, hsb, run_setObj' k2]
                · rw [List.getElem?_set] at he
                  rw [Array.getElem?_modify] at hy
                  by_cases hjj : j = j'
                  · subst hjj
                    rw [if_pos rfl, if_pos (by omega)] at he
                    cases he
                    rw [if_pos rfl, hxj] at hy
                    cases hy
                    exact ⟨(k4 j e0 _ he0 hxj).1, hk, hx⟩
                  · rw [if_neg hjj] at he
                    rw [if_neg hjj] at hy
                    exact k4 j' e y he hy
            · exact H.elim
        · exact H.elim
      · exact H.elim
    · exact H.elim
  · exact H.elim
end
end Go.Abs
