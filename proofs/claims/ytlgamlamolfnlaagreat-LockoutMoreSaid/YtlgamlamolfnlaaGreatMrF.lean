/- Texts joined: Ty. No conditions. -/
import Derived.Test.YtlgamlamolfnlaaGreatProg
import Derived.Test.YtlgamlamolfnlaaGreatMrE
import Derived.KernelRfl
/- The closed facts on the types of this translation: cells, zero values, places of fields, elements. By program; no conditions. -/
namespace Go.Proofs.YtlgamlamolfnlaaGreat.Ty
open Go Go.Proofs Go.Abs
theorem mixed : Tryz.prog.follows .mixedOrders = true := by kernel_rfl
theorem sz1 : tsz Tryz.prog 1 = some 1 := by kernel_rfl
theorem ag1 : tag Tryz.prog 1 = some none := by kernel_rfl
theorem zc1 : tzc Tryz.prog 1 = some [.nilFunc] := by kernel_rfl
theorem sr1 : tsrc Tryz.prog 1 = true := by kernel_rfl
theorem sz2 : tsz Tryz.prog 2 = some 1 := by kernel_rfl
theorem ag2 : tag Tryz.prog 2 = some none := by kernel_rfl
theorem zc2 : tzc Tryz.prog 2 = some [(.int .i64 0)] := by kernel_rfl
theorem sr2 : tsrc Tryz.prog 2 = false := by kernel_rfl
theorem sz3 : tsz Tryz.prog 3 = some 1 := by kernel_rfl
theorem ag3 : tag Tryz.prog 3 = some none := by kernel_rfl
theorem zc3 : tzc Tryz.prog 3 = some [(.int .i64 0)] := by kernel_rfl
theorem sr3 : tsrc Tryz.prog 3 = false := by kernel_rfl
theorem sz4 : tsz Tryz.prog 4 = some 1 := by kernel_rfl
theorem ag4 : tag Tryz.prog 4 = some none := by kernel_rfl
theorem zc4 : tzc Tryz.prog 4 = some [(.bool false)] := by kernel_rfl
theorem sr4 : tsrc Tryz.prog 4 = true := by kernel_rfl
theorem bo4 : tbool Tryz.prog 4 = true := by kernel_rfl
theorem sz5 : tsz Tryz.prog 5 = some 1 := by kernel_rfl
theorem ag5 : tag Tryz.prog 5 = some none := by kernel_rfl
theorem zc5 : tzc Tryz.prog 5 = some [(.int .u8 0)] := by kernel_rfl
theorem sr5 : tsrc Tryz.prog 5 = false := by kernel_rfl
theorem sz6 : tsz Tryz.prog 6 = some 1 := by kernel_rfl
theorem ag6 : tag Tryz.prog 6 = some none := by kernel_rfl
theorem zc6 : tzc Tryz.prog 6 = some [(.int .u8 0)] := by kernel_rfl
theorem sr6 : tsrc Tryz.prog 6 = false := by kernel_rfl
theorem sz7 : tsz Tryz.prog 7 = some 4 := by kernel_rfl
theorem ag7 : tag Tryz.prog 7 = some (some 4) := by kernel_rfl
theorem zc7 : tzc Tryz.prog 7 = some [(.int .i64 0), (.int .i64 0), (.bool false), (.int .u8 0)] := by kernel_rfl
theorem sr7 : tsrc Tryz.prog 7 = true := by kernel_rfl
theorem fd7_0 : tfd Tryz.prog 7 0 = some (0, 2) := by kernel_rfl
theorem fo7_0 : tfo Tryz.prog 7 0 = some 0 := by kernel_rfl
theorem fd7_1 : tfd Tryz.prog 7 1 = some (1, 3) := by kernel_rfl
theorem fo7_1 : tfo Tryz.prog 7 1 = some 1 := by kernel_rfl
theorem fd7_2 : tfd Tryz.prog 7 2 = some (2, 4) := by kernel_rfl
theorem fo7_2 : tfo Tryz.prog 7 2 = some 2 := by kernel_rfl
theorem fd7_3 : tfd Tryz.prog 7 3 = some (3, 6) := by kernel_rfl
theorem fo7_3 : tfo Tryz.prog 7 3 = some 3 := by kernel_rfl
theorem pl7 : tpl Tryz.prog 7 = some [(0, 1), (1, 1), (2, 1), (3, 1)] := by kernel_rfl
theorem bd7 (ps : List (Nat × AV)) (K : AV → Prop) : aBuild Tryz.prog 7 ps K = aBld (tpl Tryz.prog 7) (tzc Tryz.prog 7) ps K := aBuild_eq (by rw [pl7]; rfl) ps K
theorem sz8 : tsz Tryz.prog 8 = some 4 := by kernel_rfl
theorem ag8 : tag Tryz.prog 8 = some (some 4) := by kernel_rfl
theorem zc8 : tzc Tryz.prog 8 = some [(.int .i64 0), (.int .i64 0), (.bool false), (.int .u8 0)] := by kernel_rfl
theorem sr8 : tsrc Tryz.prog 8 = true := by kernel_rfl
theorem fd8_0 : tfd Tryz.prog 8 0 = some (0, 2) := by kernel_rfl
theorem fo8_0 : tfo Tryz.prog 8 0 = some 0 := by kernel_rfl
theorem fd8_1 : tfd Tryz.prog 8 1 = some (1, 3) := by kernel_rfl
theorem fo8_1 : tfo Tryz.prog 8 1 = some 1 := by kernel_rfl
theorem fd8_2 : tfd Tryz.prog 8 2 = some (2, 4) := by kernel_rfl
theorem fo8_2 : tfo Tryz.prog 8 2 = some 2 := by kernel_rfl
theorem fd8_3 : tfd Tryz.prog 8 3 = some (3, 6) := by kernel_rfl
theorem fo8_3 : tfo Tryz.prog 8 3 = some 3 := by kernel_rfl
theorem pl8 : tpl Tryz.prog 8 = some [(0, 1), (1, 1), (2, 1), (3, 1)] := by kernel_rfl
theorem bd8 (ps : List (Nat × AV)) (K : AV → Prop) : aBuild Tryz.prog 8 ps K = aBld (tpl Tryz.prog 8) (tzc Tryz.prog 8) ps K := aBuild_eq (by rw [pl8]; rfl) ps K
theorem sz9 : tsz Tryz.prog 9 = some 1 := by kernel_rfl
theorem ag9 : tag Tryz.prog 9 = some none := by kernel_rfl
theorem zc9 : tzc Tryz.prog 9 = some [(.str ⟨#[]⟩)] := by kernel_rfl
theorem sr9 : tsrc Tryz.prog 9 = true := by kernel_rfl
theorem cu9 : tcut Tryz.prog 9 = some none := by kernel_rfl
theorem ln9 : tlen Tryz.prog 9 = some .str := by kernel_rfl
theorem sz10 : tsz Tryz.prog 10 = some 1 := by kernel_rfl
theorem ag10 : tag Tryz.prog 10 = some none := by kernel_rfl
theorem zc10 : tzc Tryz.prog 10 = some [(.str ⟨#[]⟩)] := by kernel_rfl
theorem sr10 : tsrc Tryz.prog 10 = true := by kernel_rfl
theorem cu10 : tcut Tryz.prog 10 = some none := by kernel_rfl
theorem ln10 : tlen Tryz.prog 10 = some .str := by kernel_rfl
theorem sz11 : tsz Tryz.prog 11 = some 1 := by kernel_rfl
theorem ag11 : tag Tryz.prog 11 = some none := by kernel_rfl
theorem zc11 : tzc Tryz.prog 11 = some [(.str ⟨#[]⟩)] := by kernel_rfl
theorem sr11 : tsrc Tryz.prog 11 = true := by kernel_rfl
theorem cu11 : tcut Tryz.prog 11 = some none := by kernel_rfl
theorem ln11 : tlen Tryz.prog 11 = some .str := by kernel_rfl
theorem sz12 : tsz Tryz.prog 12 = some 1 := by kernel_rfl
theorem ag12 : tag Tryz.prog 12 = some none := by kernel_rfl
theorem zc12 : tzc Tryz.prog 12 = some [(.int .u64 0)] := by kernel_rfl
theorem sr12 : tsrc Tryz.prog 12 = false := by kernel_rfl
theorem sz13 : tsz Tryz.prog 13 = some 2 := by kernel_rfl
theorem ag13 : tag Tryz.prog 13 = some (some 2) := by kernel_rfl
theorem zc13 : tzc Tryz.prog 13 = some [(.str ⟨#[]⟩), (.int .u64 0)] := by kernel_rfl
theorem sr13 : tsrc Tryz.prog 13 = true := by kernel_rfl
theorem fd13_0 : tfd Tryz.prog 13 0 = some (0, 9) := by kernel_rfl
theorem fo13_0 : tfo Tryz.prog 13 0 = some 0 := by kernel_rfl
theorem fd13_1 : tfd Tryz.prog 13 1 = some (1, 12) := by kernel_rfl
theorem fo13_1 : tfo Tryz.prog 13 1 = some 1 := by kernel_rfl
theorem pl13 : tpl Tryz.prog 13 = some [(0, 1), (1, 1)] := by kernel_rfl
theorem bd13 (ps : List (Nat × AV)) (K : AV → Prop) : aBuild Tryz.prog 13 ps K = aBld (tpl Tryz.prog 13) (tzc Tryz.prog 13) ps K := aBuild_eq (by rw [pl13]; rfl) ps K
theorem sz14 : tsz Tryz.prog 14 = some 2 := by kernel_rfl
theorem ag14 : tag Tryz.prog 14 = some (some 2) := by kernel_rfl
theorem zc14 : tzc Tryz.prog 14 = some [(.str ⟨#[]⟩), (.int .u64 0)] := by kernel_rfl
theorem sr14 : tsrc Tryz.prog 14 = true := by kernel_rfl
theorem fd14_0 : tfd Tryz.prog 14 0 = some (0, 9) := by kernel_rfl
theorem fo14_0 : tfo Tryz.prog 14 0 = some 0 := by kernel_rfl
theorem fd14_1 : tfd Tryz.prog 14 1 = some (1, 12) := by kernel_rfl
theorem fo14_1 : tfo Tryz.prog 14 1 = some 1 := by kernel_rfl
theorem pl14 : tpl Tryz.prog 14 = some [(0, 1), (1, 1)] := by kernel_rfl
theorem bd14 (ps : List (Nat × AV)) (K : AV → Prop) : aBuild Tryz.prog 14 ps K = aBld (tpl Tryz.prog 14) (tzc Tryz.prog 14) ps K := aBuild_eq (by rw [pl14]; rfl) ps K
theorem sz15 : tsz Tryz.prog 15 = some 1 := by kernel_rfl
theorem ag15 : tag Tryz.prog 15 = some none := by kernel_rfl
theorem zc15 : tzc Tryz.prog 15 = some [(.ptr none)] := by kernel_rfl
theorem sr15 : tsrc Tryz.prog 15 = true := by kernel_rfl
theorem sz16 : tsz Tryz.prog 16 = some 1 := by kernel_rfl
theorem ag16 : tag Tryz.prog 16 = some none := by kernel_rfl
theorem zc16 : tzc Tryz.prog 16 = some [(.ptr none)] := by kernel_rfl
theorem sr16 : tsrc Tryz.prog 16 = true := by kernel_rfl
theorem sz17 : tsz Tryz.prog 17 = some 1 := by kernel_rfl
theorem ag17 : tag Tryz.prog 17 = some none := by kernel_rfl
theorem zc17 : tzc Tryz.prog 17 = some [(.ptr none)] := by kernel_rfl
theorem sr17 : tsrc Tryz.prog 17 = true := by kernel_rfl
theorem sz18 : tsz Tryz.prog 18 = some 1 := by kernel_rfl
theorem ag18 : tag Tryz.prog 18 = some (some 1) := by kernel_rfl
theorem zc18 : tzc Tryz.prog 18 = some [(.ptr none)] := by kernel_rfl
theorem sr18 : tsrc Tryz.prog 18 = true := by kernel_rfl
theorem fd18_0 : tfd Tryz.prog 18 0 = some (0, 17) := by kernel_rfl
theorem fo18_0 : tfo Tryz.prog 18 0 = some 0 := by kernel_rfl
theorem pl18 : tpl Tryz.prog 18 = some [(0, 1)] := by kernel_rfl
theorem bd18 (ps : List (Nat × AV)) (K : AV → Prop) : aBuild Tryz.prog 18 ps K = aBld (tpl Tryz.prog 18) (tzc Tryz.prog 18) ps K := aBuild_eq (by rw [pl18]; rfl) ps K
theorem sz19 : tsz Tryz.prog 19 = some 1 := by kernel_rfl
theorem ag19 : tag Tryz.prog 19 = some (some 1) := by kernel_rfl
theorem zc19 : tzc Tryz.prog 19 = some [(.ptr none)] := by kernel_rfl
theorem sr19 : tsrc Tryz.prog 19 = true := by kernel_rfl
theorem fd19_0 : tfd Tryz.prog 19 0 = some (0, 17) := by kernel_rfl
theorem fo19_0 : tfo Tryz.prog 19 0 = some 0 := by kernel_rfl
theorem pl19 : tpl Tryz.prog 19 = some [(0, 1)] := by kernel_rfl
theorem bd19 (ps : List (Nat × AV)) (K : AV → Prop) : aBuild Tryz.prog 19 ps K = aBld (tpl Tryz.prog 19) (tzc Tryz.prog 19) ps K := aBuild_eq (by rw [pl19]; rfl) ps K
theorem sz20 : tsz Tryz.prog 20 = some 1 := by kernel_rfl
theorem ag20 : tag Tryz.prog 20 = some none := by kernel_rfl
theorem zc20 : tzc Tryz.prog 20 = some [.nilIface] := by kernel_rfl
theorem sr20 : tsrc Tryz.prog 20 = true := by kernel_rfl
theorem sz21 : tsz Tryz.prog 21 = some 1 := by kernel_rfl
theorem ag21 : tag Tryz.prog 21 = some none := by kernel_rfl
theorem zc21 : tzc Tryz.prog 21 = some [(.int .i32 0)] := by kernel_rfl
theorem sr21 : tsrc Tryz.prog 21 = false := by kernel_rfl
theorem sz22 : tsz Tryz.prog 22 = some 1 := by kernel_rfl
theorem ag22 : tag Tryz.prog 22 = some none := by kernel_rfl
theorem zc22 : tzc Tryz.prog 22 = some [(.sl [] .full)] := by kernel_rfl
theorem sr22 : tsrc Tryz.prog 22 = true := by kernel_rfl
theorem el22 : tel Tryz.prog 22 = some (none, 3) := by kernel_rfl
theorem cu22 : tcut Tryz.prog 22 = some (some 3) := by kernel_rfl
theorem ap22 : tap Tryz.prog 22 = some (3, 40) := by kernel_rfl
theorem bs22 : tbs Tryz.prog 22 = some 3 := by kernel_rfl
theorem ms22 : tms Tryz.prog 22 = some (3, 40, [(.int .i64 0), (.int .i64 0), (.sl [] .full)], 24) := by kernel_rfl
theorem mm22 (l c : AV) (h : AH) (K : AV → AH → Prop) : aMakeSlice Tryz.prog 22 l c h K = aMkT (tms Tryz.prog 22) l c h K := aMakeSlice_eq (by rw [ms22]; rfl) l c K
theorem mc22 (x : AV) (h : AH) (K : AV → AH → Prop) : aClear Tryz.prog 22 x h K = aClT (tms Tryz.prog 22) x h K := aClear_eq (by rw [ms22]; rfl) x K
theorem mb22 (n : Nat) (ps : List (Nat × AV)) (h : AH) (K : AV → AH → Prop) : aBuildSliceM Tryz.prog 22 n ps h K = aBsM (tms Tryz.prog 22) n ps h K := aBuildSliceM_eq (by rw [ms22]; rfl) n ps K
theorem ma22 (s x : AV) (h : AH) (K : AV → AH → Prop) : aAppendM Tryz.prog 22 22 s x h K = aApM (tms Tryz.prog 22) s x h K := aAppendM_eq sr22 (by rw [ms22]; rfl) s x K
theorem ae22_22 (s x : AV) (h : AH) (K : AV → AH → Prop) : aAppend Tryz.prog 22 22 s x h K = aAp (tap Tryz.prog 22) s x h K := aAppend_eq sr22 s x K
theorem ln22 : tlen Tryz.prog 22 = some .sl := by kernel_rfl
theorem sz23 : tsz Tryz.prog 23 = some 3 := by kernel_rfl
theorem ag23 : tag Tryz.prog 23 = some (some 3) := by kernel_rfl
theorem zc23 : tzc Tryz.prog 23 = some [(.int .i64 0), (.int .i64 0), (.sl [] .full)] := by kernel_rfl
theorem sr23 : tsrc Tryz.prog 23 = true := by kernel_rfl
theorem fd23_0 : tfd Tryz.prog 23 0 = some (0, 3) := by kernel_rfl
theorem fo23_0 : tfo Tryz.prog 23 0 = some 0 := by kernel_rfl
theorem fd23_1 : tfd Tryz.prog 23 1 = some (1, 3) := by kernel_rfl
theorem fo23_1 : tfo Tryz.prog 23 1 = some 1 := by kernel_rfl
theorem fd23_2 : tfd Tryz.prog 23 2 = some (2, 22) := by kernel_rfl
theorem fo23_2 : tfo Tryz.prog 23 2 = some 2 := by kernel_rfl
theorem pl23 : tpl Tryz.prog 23 = some [(0, 1), (1, 1), (2, 1)] := by kernel_rfl
theorem bd23 (ps : List (Nat × AV)) (K : AV → Prop) : aBuild Tryz.prog 23 ps K = aBld (tpl Tryz.prog 23) (tzc Tryz.prog 23) ps K := aBuild_eq (by rw [pl23]; rfl) ps K
theorem sz24 : tsz Tryz.prog 24 = some 3 := by kernel_rfl
theorem ag24 : tag Tryz.prog 24 = some (some 3) := by kernel_rfl
theorem zc24 : tzc Tryz.prog 24 = some [(.int .i64 0), (.int .i64 0), (.sl [] .full)] := by kernel_rfl
theorem sr24 : tsrc Tryz.prog 24 = true := by kernel_rfl
theorem fd24_0 : tfd Tryz.prog 24 0 = some (0, 3) := by kernel_rfl
theorem fo24_0 : tfo Tryz.prog 24 0 = some 0 := by kernel_rfl
theorem fd24_1 : tfd Tryz.prog 24 1 = some (1, 3) := by kernel_rfl
theorem fo24_1 : tfo Tryz.prog 24 1 = some 1 := by kernel_rfl
theorem fd24_2 : tfd Tryz.prog 24 2 = some (2, 22) := by kernel_rfl
theorem fo24_2 : tfo Tryz.prog 24 2 = some 2 := by kernel_rfl
theorem pl24 : tpl Tryz.prog 24 = some [(0, 1), (1, 1), (2, 1)] := by kernel_rfl
theorem bd24 (ps : List (Nat × AV)) (K : AV → Prop) : aBuild Tryz.prog 24 ps K = aBld (tpl Tryz.prog 24) (tzc Tryz.prog 24) ps K := aBuild_eq (by rw [pl24]; rfl) ps K
theorem sz25 : tsz Tryz.prog 25 = some 1 := by kernel_rfl
theorem ag25 : tag Tryz.prog 25 = some none := by kernel_rfl
theorem zc25 : tzc Tryz.prog 25 = some [.nilFunc] := by kernel_rfl
theorem sr25 : tsrc Tryz.prog 25 = true := by kernel_rfl
theorem sz26 : tsz Tryz.prog 26 = some 1 := by kernel_rfl
theorem ag26 : tag Tryz.prog 26 = some none := by kernel_rfl
theorem zc26 : tzc Tryz.prog 26 = some [.nilFunc] := by kernel_rfl
theorem sr26 : tsrc Tryz.prog 26 = true := by kernel_rfl
theorem sz27 : tsz Tryz.prog 27 = some 1 := by kernel_rfl
theorem ag27 : tag Tryz.prog 27 = some none := by kernel_rfl
theorem zc27 : tzc Tryz.prog 27 = some [(.sl [] .full)] := by kernel_rfl
theorem sr27 : tsrc Tryz.prog 27 = true := by kernel_rfl
theorem el27 : tel Tryz.prog 27 = some (none, 1) := by kernel_rfl
theorem cu27 : tcut Tryz.prog 27 = some (some 1) := by kernel_rfl
theorem ap27 : tap Tryz.prog 27 = some (1, 8) := by kernel_rfl
theorem bs27 : tbs Tryz.prog 27 = some 1 := by kernel_rfl
theorem ms27 : tms Tryz.prog 27 = some (1, 8, [(.int .i64 0)], 3) := by kernel_rfl
theorem mm27 (l c : AV) (h : AH) (K : AV → AH → Prop) : aMakeSlice Tryz.prog 27 l c h K = aMkT (tms Tryz.prog 27) l c h K := aMakeSlice_eq (by rw [ms27]; rfl) l c K
theorem mc27 (x : AV) (h : AH) (K : AV → AH → Prop) : aClear Tryz.prog 27 x h K = aClT (tms Tryz.prog 27) x h K := aClear_eq (by rw [ms27]; rfl) x K
theorem mb27 (n : Nat) (ps : List (Nat × AV)) (h : AH) (K : AV → AH → Prop) : aBuildSliceM Tryz.prog 27 n ps h K = aBsM (tms Tryz.prog 27) n ps h K := aBuildSliceM_eq (by rw [ms27]; rfl) n ps K
theorem ma27 (s x : AV) (h : AH) (K : AV → AH → Prop) : aAppendM Tryz.prog 27 27 s x h K = aApM (tms Tryz.prog 27) s x h K := aAppendM_eq sr27 (by rw [ms27]; rfl) s x K
theorem ae27_27 (s x : AV) (h : AH) (K : AV → AH → Prop) : aAppend Tryz.prog 27 27 s x h K = aAp (tap Tryz.prog 27) s x h K := aAppend_eq sr27 s x K
theorem ln27 : tlen Tryz.prog 27 = some .sl := by kernel_rfl
theorem sz28 : tsz Tryz.prog 28 = some 1 := by kernel_rfl
theorem ag28 : tag Tryz.prog 28 = some none := by kernel_rfl
theorem zc28 : tzc Tryz.prog 28 = some [(.int .i64 0)] := by kernel_rfl
theorem sr28 : tsrc Tryz.prog 28 = false := by kernel_rfl
theorem sz30 : tsz Tryz.prog 30 = some 1 := by kernel_rfl
theorem ag30 : tag Tryz.prog 30 = some none := by kernel_rfl
theorem zc30 : tzc Tryz.prog 30 = some [.nilFunc] := by kernel_rfl
theorem sr30 : tsrc Tryz.prog 30 = true := by kernel_rfl
theorem sz31 : tsz Tryz.prog 31 = some 1 := by kernel_rfl
theorem ag31 : tag Tryz.prog 31 = some none := by kernel_rfl
theorem zc31 : tzc Tryz.prog 31 = some [.nilFunc] := by kernel_rfl
theorem sr31 : tsrc Tryz.prog 31 = true := by kernel_rfl
theorem sz32 : tsz Tryz.prog 32 = some 1 := by kernel_rfl
theorem ag32 : tag Tryz.prog 32 = some none := by kernel_rfl
theorem zc32 : tzc Tryz.prog 32 = some [.nilFunc] := by kernel_rfl
theorem sr32 : tsrc Tryz.prog 32 = true := by kernel_rfl
theorem sz33 : tsz Tryz.prog 33 = some 1 := by kernel_rfl
theorem ag33 : tag Tryz.prog 33 = some none := by kernel_rfl
theorem zc33 : tzc Tryz.prog 33 = some [(.sl [] .full)] := by kernel_rfl
theorem sr33 : tsrc Tryz.prog 33 = true := by kernel_rfl
theorem el33 : tel Tryz.prog 33 = some (none, 1) := by kernel_rfl
theorem cu33 : tcut Tryz.prog 33 = some (some 1) := by kernel_rfl
theorem ap33 : tap Tryz.prog 33 = some (1, 24) := by kernel_rfl
theorem bs33 : tbs Tryz.prog 33 = some 1 := by kernel_rfl
theorem ms33 : tms Tryz.prog 33 = some (1, 24, [(.sl [] .full)], 27) := by kernel_rfl
theorem mm33 (l c : AV) (h : AH) (K : AV → AH → Prop) : aMakeSlice Tryz.prog 33 l c h K = aMkT (tms Tryz.prog 33) l c h K := aMakeSlice_eq (by rw [ms33]; rfl) l c K
theorem mc33 (x : AV) (h : AH) (K : AV → AH → Prop) : aClear Tryz.prog 33 x h K = aClT (tms Tryz.prog 33) x h K := aClear_eq (by rw [ms33]; rfl) x K
theorem mb33 (n : Nat) (ps : List (Nat × AV)) (h : AH) (K : AV → AH → Prop) : aBuildSliceM Tryz.prog 33 n ps h K = aBsM (tms Tryz.prog 33) n ps h K := aBuildSliceM_eq (by rw [ms33]; rfl) n ps K
theorem ma33 (s x : AV) (h : AH) (K : AV → AH → Prop) : aAppendM Tryz.prog 33 33 s x h K = aApM (tms Tryz.prog 33) s x h K := aAppendM_eq sr33 (by rw [ms33]; rfl) s x K
theorem ae33_33 (s x : AV) (h : AH) (K : AV → AH → Prop) : aAppend Tryz.prog 33 33 s x h K = aAp (tap Tryz.prog 33) s x h K := aAppend_eq sr33 s x K
theorem ln33 : tlen Tryz.prog 33 = some .sl := by kernel_rfl
theorem sz35 : tsz Tryz.prog 35 = some 1 := by kernel_rfl
theorem ag35 : tag Tryz.prog 35 = some none := by kernel_rfl
theorem zc35 : tzc Tryz.prog 35 = some [.nilFunc] := by kernel_rfl
theorem sr35 : tsrc Tryz.prog 35 = true := by kernel_rfl
theorem sz37 : tsz Tryz.prog 37 = some 1 := by kernel_rfl
theorem ag37 : tag Tryz.prog 37 = some none := by kernel_rfl
theorem zc37 : tzc Tryz.prog 37 = some [.nilFunc] := by kernel_rfl
theorem sr37 : tsrc Tryz.prog 37 = true := by kernel_rfl
theorem sz38 : tsz Tryz.prog 38 = some 1 := by kernel_rfl
theorem ag38 : tag Tryz.prog 38 = some none := by kernel_rfl
theorem zc38 : tzc Tryz.prog 38 = some [.nilFunc] := by kernel_rfl
theorem sr38 : tsrc Tryz.prog 38 = true := by kernel_rfl
theorem sz39 : tsz Tryz.prog 39 = some 1 := by kernel_rfl
theorem ag39 : tag Tryz.prog 39 = some none := by kernel_rfl
theorem zc39 : tzc Tryz.prog 39 = some [.nilFunc] := by kernel_rfl
theorem sr39 : tsrc Tryz.prog 39 = true := by kernel_rfl
theorem sz40 : tsz Tryz.prog 40 = some 1 := by kernel_rfl
theorem ag40 : tag Tryz.prog 40 = some none := by kernel_rfl
theorem zc40 : tzc Tryz.prog 40 = some [.nilFunc] := by kernel_rfl
theorem sr40 : tsrc Tryz.prog 40 = true := by kernel_rfl
theorem sz41 : tsz Tryz.prog 41 = some 1 := by kernel_rfl
theorem ag41 : tag Tryz.prog 41 = some none := by kernel_rfl
theorem zc41 : tzc Tryz.prog 41 = some [.nilFunc] := by kernel_rfl
theorem sr41 : tsrc Tryz.prog 41 = true := by kernel_rfl
theorem sz42 : tsz Tryz.prog 42 = some 1 := by kernel_rfl
theorem ag42 : tag Tryz.prog 42 = some none := by kernel_rfl
theorem zc42 : tzc Tryz.prog 42 = some [.nilFunc] := by kernel_rfl
theorem sr42 : tsrc Tryz.prog 42 = true := by kernel_rfl
theorem sz43 : tsz Tryz.prog 43 = some 1 := by kernel_rfl
theorem ag43 : tag Tryz.prog 43 = some none := by kernel_rfl
theorem zc43 : tzc Tryz.prog 43 = some [.nilFunc] := by kernel_rfl
theorem sr43 : tsrc Tryz.prog 43 = true := by kernel_rfl
theorem sz44 : tsz Tryz.prog 44 = some 1 := by kernel_rfl
theorem ag44 : tag Tryz.prog 44 = some none := by kernel_rfl
theorem zc44 : tzc Tryz.prog 44 = some [.nilFunc] := by kernel_rfl
theorem sr44 : tsrc Tryz.prog 44 = true := by kernel_rfl
theorem sz46 : tsz Tryz.prog 46 = some 1 := by kernel_rfl
theorem ag46 : tag Tryz.prog 46 = some none := by kernel_rfl
theorem zc46 : tzc Tryz.prog 46 = some [.nilFunc] := by kernel_rfl
theorem sr46 : tsrc Tryz.prog 46 = true := by kernel_rfl
theorem sz47 : tsz Tryz.prog 47 = some 1 := by kernel_rfl
theorem ag47 : tag Tryz.prog 47 = some none := by kernel_rfl
theorem zc47 : tzc Tryz.prog 47 = some [.nilFunc] := by kernel_rfl
theorem sr47 : tsrc Tryz.prog 47 = true := by kernel_rfl
theorem sz48 : tsz Tryz.prog 48 = some 1 := by kernel_rfl
theorem ag48 : tag Tryz.prog 48 = some none := by kernel_rfl
theorem zc48 : tzc Tryz.prog 48 = some [.nilFunc] := by kernel_rfl
theorem sr48 : tsrc Tryz.prog 48 = true := by kernel_rfl
theorem sz49 : tsz Tryz.prog 49 = some 1 := by kernel_rfl
theorem ag49 : tag Tryz.prog 49 = some none := by kernel_rfl
theorem zc49 : tzc Tryz.prog 49 = some [.nilFunc] := by kernel_rfl
theorem sr49 : tsrc Tryz.prog 49 = true := by kernel_rfl
theorem sz50 : tsz Tryz.prog 50 = some 1 := by kernel_rfl
theorem ag50 : tag Tryz.prog 50 = some none := by kernel_rfl
theorem zc50 : tzc Tryz.prog 50 = some [.nilFunc] := by kernel_rfl
theorem sr50 : tsrc Tryz.prog 50 = true := by kernel_rfl
theorem sz51 : tsz Tryz.prog 51 = some 1 := by kernel_rfl
theorem ag51 : tag Tryz.prog 51 = some none := by kernel_rfl
theorem zc51 : tzc Tryz.prog 51 = some [.nilFunc] := by kernel_rfl
theorem sr51 : tsrc Tryz.prog 51 = true := by kernel_rfl
theorem sz52 : tsz Tryz.prog 52 = some 1 := by kernel_rfl
theorem ag52 : tag Tryz.prog 52 = some none := by kernel_rfl
theorem zc52 : tzc Tryz.prog 52 = some [.nilFunc] := by kernel_rfl
theorem sr52 : tsrc Tryz.prog 52 = true := by kernel_rfl
theorem sz53 : tsz Tryz.prog 53 = some 1 := by kernel_rfl
theorem ag53 : tag Tryz.prog 53 = some none := by kernel_rfl
theorem zc53 : tzc Tryz.prog 53 = some [.nilFunc] := by kernel_rfl
theorem sr53 : tsrc Tryz.prog 53 = true := by kernel_rfl
theorem sz54 : tsz Tryz.prog 54 = some 1 := by kernel_rfl
theorem ag54 : tag Tryz.prog 54 = some none := by kernel_rfl
theorem zc54 : tzc Tryz.prog 54 = some [.nilFunc] := by kernel_rfl
theorem sr54 : tsrc Tryz.prog 54 = true := by kernel_rfl
theorem sz55 : tsz Tryz.prog 55 = some 1 := by kernel_rfl
theorem ag55 : tag Tryz.prog 55 = some none := by kernel_rfl
theorem zc55 : tzc Tryz.prog 55 = some [.nilFunc] := by kernel_rfl
theorem sr55 : tsrc Tryz.prog 55 = true := by kernel_rfl
theorem sz56 : tsz Tryz.prog 56 = some 1 := by kernel_rfl
theorem ag56 : tag Tryz.prog 56 = some none := by kernel_rfl
theorem zc56 : tzc Tryz.prog 56 = some [.nilFunc] := by kernel_rfl
theorem sr56 : tsrc Tryz.prog 56 = true := by kernel_rfl
theorem sz57 : tsz Tryz.prog 57 = some 1 := by kernel_rfl
theorem ag57 : tag Tryz.prog 57 = some none := by kernel_rfl
theorem zc57 : tzc Tryz.prog 57 = some [.nilFunc] := by kernel_rfl
theorem sr57 : tsrc Tryz.prog 57 = true := by kernel_rfl
theorem sz58 : tsz Tryz.prog 58 = some 1 := by kernel_rfl
theorem ag58 : tag Tryz.prog 58 = some none := by kernel_rfl
theorem zc58 : tzc Tryz.prog 58 = some [.nilFunc] := by kernel_rfl
theorem sr58 : tsrc Tryz.prog 58 = true := by kernel_rfl
theorem sz59 : tsz Tryz.prog 59 = some 1 := by kernel_rfl
theorem ag59 : tag Tryz.prog 59 = some none := by kernel_rfl
theorem zc59 : tzc Tryz.prog 59 = some [.nilFunc] := by kernel_rfl
theorem sr59 : tsrc Tryz.prog 59 = true := by kernel_rfl
theorem sz60 : tsz Tryz.prog 60 = some 1 := by kernel_rfl
theorem ag60 : tag Tryz.prog 60 = some none := by kernel_rfl
theorem zc60 : tzc Tryz.prog 60 = some [.nilFunc] := by kernel_rfl
theorem sr60 : tsrc Tryz.prog 60 = true := by kernel_rfl
theorem sz61 : tsz Tryz.prog 61 = some 1 := by kernel_rfl
theorem ag61 : tag Tryz.prog 61 = some none := by kernel_rfl
theorem zc61 : tzc Tryz.prog 61 = some [.nilFunc] := by kernel_rfl
theorem sr61 : tsrc Tryz.prog 61 = true := by kernel_rfl
theorem sz62 : tsz Tryz.prog 62 = some 1 := by kernel_rfl
theorem ag62 : tag Tryz.prog 62 = some none := by kernel_rfl
theorem zc62 : tzc Tryz.prog 62 = some [.nilFunc] := by kernel_rfl
theorem sr62 : tsrc Tryz.prog 62 = true := by kernel_rfl
theorem sz63 : tsz Tryz.prog 63 = some 1 := by kernel_rfl
theorem ag63 : tag Tryz.prog 63 = some none := by kernel_rfl
theorem zc63 : tzc Tryz.prog 63 = some [.nilFunc] := by kernel_rfl
theorem sr63 : tsrc Tryz.prog 63 = true := by kernel_rfl
theorem sz64 : tsz Tryz.prog 64 = some 1 := by kernel_rfl
theorem ag64 : tag Tryz.prog 64 = some none := by kernel_rfl
theorem zc64 : tzc Tryz.prog 64 = some [.nilFunc] := by kernel_rfl
theorem sr64 : tsrc Tryz.prog 64 = true := by kernel_rfl
theorem sz65 : tsz Tryz.prog 65 = some 1 := by kernel_rfl
theorem ag65 : tag Tryz.prog 65 = some none := by kernel_rfl
theorem zc65 : tzc Tryz.prog 65 = some [.nilFunc] := by kernel_rfl
theorem sr65 : tsrc Tryz.prog 65 = true := by kernel_rfl
theorem sz66 : tsz Tryz.prog 66 = some 1 := by kernel_rfl
theorem ag66 : tag Tryz.prog 66 = some none := by kernel_rfl
theorem zc66 : tzc Tryz.prog 66 = some [.nilFunc] := by kernel_rfl
theorem sr66 : tsrc Tryz.prog 66 = true := by kernel_rfl
theorem sz67 : tsz Tryz.prog 67 = some 1 := by kernel_rfl
theorem ag67 : tag Tryz.prog 67 = some none := by kernel_rfl
theorem zc67 : tzc Tryz.prog 67 = some [.nilFunc] := by kernel_rfl
theorem sr67 : tsrc Tryz.prog 67 = true := by kernel_rfl
theorem sz68 : tsz Tryz.prog 68 = some 1 := by kernel_rfl
theorem ag68 : tag Tryz.prog 68 = some none := by kernel_rfl
theorem zc68 : tzc Tryz.prog 68 = some [(.map none)] := by kernel_rfl
theorem sr68 : tsrc Tryz.prog 68 = true := by kernel_rfl
theorem ln68 : tlen Tryz.prog 68 = some .map := by kernel_rfl
theorem mk68 : tmk Tryz.prog 68 = some (true, (.int .i64 0)) := by kernel_rfl
theorem sz69 : tsz Tryz.prog 69 = some 1 := by kernel_rfl
theorem ag69 : tag Tryz.prog 69 = some none := by kernel_rfl
theorem zc69 : tzc Tryz.prog 69 = some [.nilFunc] := by kernel_rfl
theorem sr69 : tsrc Tryz.prog 69 = true := by kernel_rfl
theorem sz70 : tsz Tryz.prog 70 = some 1 := by kernel_rfl
theorem ag70 : tag Tryz.prog 70 = some none := by kernel_rfl
theorem zc70 : tzc Tryz.prog 70 = some [(.int .u64 0)] := by kernel_rfl
theorem sr70 : tsrc Tryz.prog 70 = false := by kernel_rfl
theorem sz71 : tsz Tryz.prog 71 = some 1 := by kernel_rfl
theorem ag71 : tag Tryz.prog 71 = some none := by kernel_rfl
theorem zc71 : tzc Tryz.prog 71 = some [(.int .u64 0)] := by kernel_rfl
theorem sr71 : tsrc Tryz.prog 71 = false := by kernel_rfl
theorem sz72 : tsz Tryz.prog 72 = some 1 := by kernel_rfl
theorem ag72 : tag Tryz.prog 72 = some none := by kernel_rfl
theorem zc72 : tzc Tryz.prog 72 = some [.nilFunc] := by kernel_rfl
theorem sr72 : tsrc Tryz.prog 72 = true := by kernel_rfl
theorem sz73 : tsz Tryz.prog 73 = some 3 := by kernel_rfl
theorem ag73 : tag Tryz.prog 73 = some (some 3) := by kernel_rfl
theorem zc73 : tzc Tryz.prog 73 = some [(.sl [] .full), (.int .u64 0), .nilFunc] := by kernel_rfl
theorem sr73 : tsrc Tryz.prog 73 = true := by kernel_rfl
theorem fd73_0 : tfd Tryz.prog 73 0 = some (0, 27) := by kernel_rfl
theorem fo73_0 : tfo Tryz.prog 73 0 = some 0 := by kernel_rfl
theorem fd73_1 : tfd Tryz.prog 73 1 = some (1, 71) := by kernel_rfl
theorem fo73_1 : tfo Tryz.prog 73 1 = some 1 := by kernel_rfl
theorem fd73_2 : tfd Tryz.prog 73 2 = some (2, 72) := by kernel_rfl
theorem fo73_2 : tfo Tryz.prog 73 2 = some 2 := by kernel_rfl
theorem pl73 : tpl Tryz.prog 73 = some [(0, 1), (1, 1), (2, 1)] := by kernel_rfl
theorem bd73 (ps : List (Nat × AV)) (K : AV → Prop) : aBuild Tryz.prog 73 ps K = aBld (tpl Tryz.prog 73) (tzc Tryz.prog 73) ps K := aBuild_eq (by rw [pl73]; rfl) ps K
theorem sz74 : tsz Tryz.prog 74 = some 3 := by kernel_rfl
theorem ag74 : tag Tryz.prog 74 = some (some 3) := by kernel_rfl
theorem zc74 : tzc Tryz.prog 74 = some [(.sl [] .full), (.int .u64 0), .nilFunc] := by kernel_rfl
theorem sr74 : tsrc Tryz.prog 74 = true := by kernel_rfl
theorem fd74_0 : tfd Tryz.prog 74 0 = some (0, 27) := by kernel_rfl
theorem fo74_0 : tfo Tryz.prog 74 0 = some 0 := by kernel_rfl
theorem fd74_1 : tfd Tryz.prog 74 1 = some (1, 71) := by kernel_rfl
theorem fo74_1 : tfo Tryz.prog 74 1 = some 1 := by kernel_rfl
theorem fd74_2 : tfd Tryz.prog 74 2 = some (2, 72) := by kernel_rfl
theorem fo74_2 : tfo Tryz.prog 74 2 = some 2 := by kernel_rfl
theorem pl74 : tpl Tryz.prog 74 = some [(0, 1), (1, 1), (2, 1)] := by kernel_rfl
theorem bd74 (ps : List (Nat × AV)) (K : AV → Prop) : aBuild Tryz.prog 74 ps K = aBld (tpl Tryz.prog 74) (tzc Tryz.prog 74) ps K := aBuild_eq (by rw [pl74]; rfl) ps K
theorem sz76 : tsz Tryz.prog 76 = some 1 := by kernel_rfl
theorem ag76 : tag Tryz.prog 76 = some none := by kernel_rfl
theorem zc76 : tzc Tryz.prog 76 = some [.nilFunc] := by kernel_rfl
theorem sr76 : tsrc Tryz.prog 76 = true := by kernel_rfl
theorem sz77 : tsz Tryz.prog 77 = some 1 := by kernel_rfl
theorem ag77 : tag Tryz.prog 77 = some none := by kernel_rfl
theorem zc77 : tzc Tryz.prog 77 = some [.nilFunc] := by kernel_rfl
theorem sr77 : tsrc Tryz.prog 77 = true := by kernel_rfl
theorem sz78 : tsz Tryz.prog 78 = some 1 := by kernel_rfl
theorem ag78 : tag Tryz.prog 78 = some none := by kernel_rfl
theorem zc78 : tzc Tryz.prog 78 = some [(.map none)] := by kernel_rfl
theorem sr78 : tsrc Tryz.prog 78 = true := by kernel_rfl
theorem ln78 : tlen Tryz.prog 78 = some .map := by kernel_rfl
theorem mk78 : tmk Tryz.prog 78 = some (true, (.bool false)) := by kernel_rfl
theorem sz79 : tsz Tryz.prog 79 = some 1 := by kernel_rfl
theorem ag79 : tag Tryz.prog 79 = some none := by kernel_rfl
theorem zc79 : tzc Tryz.prog 79 = some [.nilFunc] := by kernel_rfl
theorem sr79 : tsrc Tryz.prog 79 = true := by kernel_rfl
theorem sz80 : tsz Tryz.prog 80 = some 1 := by kernel_rfl
theorem ag80 : tag Tryz.prog 80 = some none := by kernel_rfl
theorem zc80 : tzc Tryz.prog 80 = some [.nilFunc] := by kernel_rfl
theorem sr80 : tsrc Tryz.prog 80 = true := by kernel_rfl
theorem sz81 : tsz Tryz.prog 81 = some 1 := by kernel_rfl
theorem ag81 : tag Tryz.prog 81 = some none := by kernel_rfl
theorem zc81 : tzc Tryz.prog 81 = some [.nilFunc] := by kernel_rfl
theorem sr81 : tsrc Tryz.prog 81 = true := by kernel_rfl
theorem sz82 : tsz Tryz.prog 82 = some 1 := by kernel_rfl
theorem ag82 : tag Tryz.prog 82 = some none := by kernel_rfl
theorem zc82 : tzc Tryz.prog 82 = some [.nilFunc] := by kernel_rfl
theorem sr82 : tsrc Tryz.prog 82 = true := by kernel_rfl
theorem sz83 : tsz Tryz.prog 83 = some 1 := by kernel_rfl
theorem ag83 : tag Tryz.prog 83 = some none := by kernel_rfl
theorem zc83 : tzc Tryz.prog 83 = some [.nilFunc] := by kernel_rfl
theorem sr83 : tsrc Tryz.prog 83 = true := by kernel_rfl
theorem sz84 : tsz Tryz.prog 84 = some 1 := by kernel_rfl
theorem ag84 : tag Tryz.prog 84 = some none := by kernel_rfl
theorem zc84 : tzc Tryz.prog 84 = some [.nilFunc] := by kernel_rfl
theorem sr84 : tsrc Tryz.prog 84 = true := by kernel_rfl
theorem sz85 : tsz Tryz.prog 85 = some 1 := by kernel_rfl
theorem ag85 : tag Tryz.prog 85 = some none := by kernel_rfl
theorem zc85 : tzc Tryz.prog 85 = some [.nilFunc] := by kernel_rfl
theorem sr85 : tsrc Tryz.prog 85 = true := by kernel_rfl
theorem sz86 : tsz Tryz.prog 86 = some 1 := by kernel_rfl
theorem ag86 : tag Tryz.prog 86 = some none := by kernel_rfl
theorem zc86 : tzc Tryz.prog 86 = some [.nilFunc] := by kernel_rfl
theorem sr86 : tsrc Tryz.prog 86 = true := by kernel_rfl
theorem sz87 : tsz Tryz.prog 87 = some 1 := by kernel_rfl
theorem ag87 : tag Tryz.prog 87 = some none := by kernel_rfl
theorem zc87 : tzc Tryz.prog 87 = some [.nilFunc] := by kernel_rfl
theorem sr87 : tsrc Tryz.prog 87 = true := by kernel_rfl
theorem sz88 : tsz Tryz.prog 88 = some 1 := by kernel_rfl
theorem ag88 : tag Tryz.prog 88 = some none := by kernel_rfl
theorem zc88 : tzc Tryz.prog 88 = some [.nilFunc] := by kernel_rfl
theorem sr88 : tsrc Tryz.prog 88 = true := by kernel_rfl
theorem sz89 : tsz Tryz.prog 89 = some 1 := by kernel_rfl
theorem ag89 : tag Tryz.prog 89 = some none := by kernel_rfl
theorem zc89 : tzc Tryz.prog 89 = some [.nilFunc] := by kernel_rfl
theorem sr89 : tsrc Tryz.prog 89 = true := by kernel_rfl
theorem sz90 : tsz Tryz.prog 90 = some 1 := by kernel_rfl
theorem ag90 : tag Tryz.prog 90 = some none := by kernel_rfl
theorem zc90 : tzc Tryz.prog 90 = some [(.sl [] .full)] := by kernel_rfl
theorem sr90 : tsrc Tryz.prog 90 = true := by kernel_rfl
theorem el90 : tel Tryz.prog 90 = some (none, 1) := by kernel_rfl
theorem cu90 : tcut Tryz.prog 90 = some (some 1) := by kernel_rfl
theorem ap90 : tap Tryz.prog 90 = some (1, 1) := by kernel_rfl
theorem bs90 : tbs Tryz.prog 90 = some 1 := by kernel_rfl
theorem ms90 : tms Tryz.prog 90 = some (1, 1, [(.bool false)], 4) := by kernel_rfl
theorem mm90 (l c : AV) (h : AH) (K : AV → AH → Prop) : aMakeSlice Tryz.prog 90 l c h K = aMkT (tms Tryz.prog 90) l c h K := aMakeSlice_eq (by rw [ms90]; rfl) l c K
theorem mc90 (x : AV) (h : AH) (K : AV → AH → Prop) : aClear Tryz.prog 90 x h K = aClT (tms Tryz.prog 90) x h K := aClear_eq (by rw [ms90]; rfl) x K
theorem mb90 (n : Nat) (ps : List (Nat × AV)) (h : AH) (K : AV → AH → Prop) : aBuildSliceM Tryz.prog 90 n ps h K = aBsM (tms Tryz.prog 90) n ps h K := aBuildSliceM_eq (by rw [ms90]; rfl) n ps K
theorem ma90 (s x : AV) (h : AH) (K : AV → AH → Prop) : aAppendM Tryz.prog 90 90 s x h K = aApM (tms Tryz.prog 90) s x h K := aAppendM_eq sr90 (by rw [ms90]; rfl) s x K
theorem ae90_90 (s x : AV) (h : AH) (K : AV → AH → Prop) : aAppend Tryz.prog 90 90 s x h K = aAp (tap Tryz.prog 90) s x h K := aAppend_eq sr90 s x K
theorem ln90 : tlen Tryz.prog 90 = some .sl := by kernel_rfl
theorem sz91 : tsz Tryz.prog 91 = some 1 := by kernel_rfl
theorem ag91 : tag Tryz.prog 91 = some none := by kernel_rfl
theorem zc91 : tzc Tryz.prog 91 = some [.nilFunc] := by kernel_rfl
theorem sr91 : tsrc Tryz.prog 91 = true := by kernel_rfl
theorem sz92 : tsz Tryz.prog 92 = some 1 := by kernel_rfl
theorem ag92 : tag Tryz.prog 92 = some none := by kernel_rfl
theorem zc92 : tzc Tryz.prog 92 = some [.nilFunc] := by kernel_rfl
theorem sr92 : tsrc Tryz.prog 92 = true := by kernel_rfl
theorem sz93 : tsz Tryz.prog 93 = some 1 := by kernel_rfl
theorem ag93 : tag Tryz.prog 93 = some none := by kernel_rfl
theorem zc93 : tzc Tryz.prog 93 = some [.nilFunc] := by kernel_rfl
theorem sr93 : tsrc Tryz.prog 93 = true := by kernel_rfl
theorem sz94 : tsz Tryz.prog 94 = some 1 := by kernel_rfl
theorem ag94 : tag Tryz.prog 94 = some none := by kernel_rfl
theorem zc94 : tzc Tryz.prog 94 = some [.nilFunc] := by kernel_rfl
theorem sr94 : tsrc Tryz.prog 94 = true := by kernel_rfl
theorem sz95 : tsz Tryz.prog 95 = some 1 := by kernel_rfl
theorem ag95 : tag Tryz.prog 95 = some none := by kernel_rfl
theorem zc95 : tzc Tryz.prog 95 = some [.nilFunc] := by kernel_rfl
theorem sr95 : tsrc Tryz.prog 95 = true := by kernel_rfl
theorem sz96 : tsz Tryz.prog 96 = some 1 := by kernel_rfl
theorem ag96 : tag Tryz.prog 96 = some none := by kernel_rfl
theorem zc96 : tzc Tryz.prog 96 = some [.nilFunc] := by kernel_rfl
theorem sr96 : tsrc Tryz.prog 96 = true := by kernel_rfl
theorem sz97 : tsz Tryz.prog 97 = some 1 := by kernel_rfl
theorem ag97 : tag Tryz.prog 97 = some none := by kernel_rfl
theorem zc97 : tzc Tryz.prog 97 = some [.nilFunc] := by kernel_rfl
theorem sr97 : tsrc Tryz.prog 97 = true := by kernel_rfl
theorem sz98 : tsz Tryz.prog 98 = some 1 := by kernel_rfl
theorem ag98 : tag Tryz.prog 98 = some none := by kernel_rfl
theorem zc98 : tzc Tryz.prog 98 = some [.nilFunc] := by kernel_rfl
theorem sr98 : tsrc Tryz.prog 98 = true := by kernel_rfl
theorem sz99 : tsz Tryz.prog 99 = some 1 := by kernel_rfl
theorem ag99 : tag Tryz.prog 99 = some none := by kernel_rfl
theorem zc99 : tzc Tryz.prog 99 = some [.nilFunc] := by kernel_rfl
theorem sr99 : tsrc Tryz.prog 99 = true := by kernel_rfl
theorem sz100 : tsz Tryz.prog 100 = some 1 := by kernel_rfl
theorem ag100 : tag Tryz.prog 100 = some none := by kernel_rfl
theorem zc100 : tzc Tryz.prog 100 = some [.nilFunc] := by kernel_rfl
theorem sr100 : tsrc Tryz.prog 100 = true := by kernel_rfl
theorem sz101 : tsz Tryz.prog 101 = some 1 := by kernel_rfl
theorem ag101 : tag Tryz.prog 101 = some none := by kernel_rfl
theorem zc101 : tzc Tryz.prog 101 = some [.nilFunc] := by kernel_rfl
theorem sr101 : tsrc Tryz.prog 101 = true := by kernel_rfl
theorem sz102 : tsz Tryz.prog 102 = some 1 := by kernel_rfl
theorem ag102 : tag Tryz.prog 102 = some none := by kernel_rfl
theorem zc102 : tzc Tryz.prog 102 = some [.nilFunc] := by kernel_rfl
theorem sr102 : tsrc Tryz.prog 102 = true := by kernel_rfl
theorem sz103 : tsz Tryz.prog 103 = some 1 := by kernel_rfl
theorem ag103 : tag Tryz.prog 103 = some none := by kernel_rfl
theorem zc103 : tzc Tryz.prog 103 = some [(.int .i64 0)] := by kernel_rfl
theorem sr103 : tsrc Tryz.prog 103 = false := by kernel_rfl
theorem sz105 : tsz Tryz.prog 105 = some 1 := by kernel_rfl
theorem ag105 : tag Tryz.prog 105 = some none := by kernel_rfl
theorem zc105 : tzc Tryz.prog 105 = some [.nilFunc] := by kernel_rfl
theorem sr105 : tsrc Tryz.prog 105 = true := by kernel_rfl
theorem sz106 : tsz Tryz.prog 106 = some 1 := by kernel_rfl
theorem ag106 : tag Tryz.prog 106 = some none := by kernel_rfl
theorem zc106 : tzc Tryz.prog 106 = some [.nilFunc] := by kernel_rfl
theorem sr106 : tsrc Tryz.prog 106 = true := by kernel_rfl
theorem sz107 : tsz Tryz.prog 107 = some 1 := by kernel_rfl
theorem ag107 : tag Tryz.prog 107 = some none := by kernel_rfl
theorem zc107 : tzc Tryz.prog 107 = some [.nilFunc] := by kernel_rfl
theorem sr107 : tsrc Tryz.prog 107 = true := by kernel_rfl
theorem sz108 : tsz Tryz.prog 108 = some 1 := by kernel_rfl
theorem ag108 : tag Tryz.prog 108 = some none := by kernel_rfl
theorem zc108 : tzc Tryz.prog 108 = some [.nilFunc] := by kernel_rfl
theorem sr108 : tsrc Tryz.prog 108 = true := by kernel_rfl
theorem sz110 : tsz Tryz.prog 110 = some 1 := by kernel_rfl
theorem ag110 : tag Tryz.prog 110 = some none := by kernel_rfl
theorem zc110 : tzc Tryz.prog 110 = some [.nilFunc] := by kernel_rfl
theorem sr110 : tsrc Tryz.prog 110 = true := by kernel_rfl
theorem sz111 : tsz Tryz.prog 111 = some 1 := by kernel_rfl
theorem ag111 : tag Tryz.prog 111 = some none := by kernel_rfl
theorem zc111 : tzc Tryz.prog 111 = some [.nilFunc] := by kernel_rfl
theorem sr111 : tsrc Tryz.prog 111 = true := by kernel_rfl
theorem sz112 : tsz Tryz.prog 112 = some 1 := by kernel_rfl
theorem ag112 : tag Tryz.prog 112 = some none := by kernel_rfl
theorem zc112 : tzc Tryz.prog 112 = some [(.int .u32 0)] := by kernel_rfl
theorem sr112 : tsrc Tryz.prog 112 = false := by kernel_rfl
theorem sz113 : tsz Tryz.prog 113 = some 1 := by kernel_rfl
theorem ag113 : tag Tryz.prog 113 = some none := by kernel_rfl
theorem zc113 : tzc Tryz.prog 113 = some [.nilFunc] := by kernel_rfl
theorem sr113 : tsrc Tryz.prog 113 = true := by kernel_rfl
theorem sz114 : tsz Tryz.prog 114 = some 1 := by kernel_rfl
theorem ag114 : tag Tryz.prog 114 = some none := by kernel_rfl
theorem zc114 : tzc Tryz.prog 114 = some [(.int .u64 0)] := by kernel_rfl
theorem sr114 : tsrc Tryz.prog 114 = false := by kernel_rfl
theorem sz115 : tsz Tryz.prog 115 = some 1 := by kernel_rfl
theorem ag115 : tag Tryz.prog 115 = some none := by kernel_rfl
theorem zc115 : tzc Tryz.prog 115 = some [.nilFunc] := by kernel_rfl
theorem sr115 : tsrc Tryz.prog 115 = true := by kernel_rfl
theorem sz116 : tsz Tryz.prog 116 = some 1 := by kernel_rfl
theorem ag116 : tag Tryz.prog 116 = some none := by kernel_rfl
theorem zc116 : tzc Tryz.prog 116 = some [.nilFunc] := by kernel_rfl
theorem sr116 : tsrc Tryz.prog 116 = true := by kernel_rfl
theorem sz117 : tsz Tryz.prog 117 = some 1 := by kernel_rfl
theorem ag117 : tag Tryz.prog 117 = some none := by kernel_rfl
theorem zc117 : tzc Tryz.prog 117 = some [.nilFunc] := by kernel_rfl
theorem sr117 : tsrc Tryz.prog 117 = true := by kernel_rfl
theorem sz118 : tsz Tryz.prog 118 = some 1 := by kernel_rfl
theorem ag118 : tag Tryz.prog 118 = some none := by kernel_rfl
theorem zc118 : tzc Tryz.prog 118 = some [.nilFunc] := by kernel_rfl
theorem sr118 : tsrc Tryz.prog 118 = true := by kernel_rfl
theorem sz119 : tsz Tryz.prog 119 = some 1 := by kernel_rfl
theorem ag119 : tag Tryz.prog 119 = some none := by kernel_rfl
theorem zc119 : tzc Tryz.prog 119 = some [.nilFunc] := by kernel_rfl
theorem sr119 : tsrc Tryz.prog 119 = true := by kernel_rfl
theorem sz120 : tsz Tryz.prog 120 = some 1 := by kernel_rfl
theorem ag120 : tag Tryz.prog 120 = some none := by kernel_rfl
theorem zc120 : tzc Tryz.prog 120 = some [.nilFunc] := by kernel_rfl
theorem sr120 : tsrc Tryz.prog 120 = true := by kernel_rfl
theorem sz121 : tsz Tryz.prog 121 = some 1 := by kernel_rfl
theorem ag121 : tag Tryz.prog 121 = some none := by kernel_rfl
theorem zc121 : tzc Tryz.prog 121 = some [.nilFunc] := by kernel_rfl
theorem sr121 : tsrc Tryz.prog 121 = true := by kernel_rfl
theorem sz122 : tsz Tryz.prog 122 = some 1 := by kernel_rfl
theorem ag122 : tag Tryz.prog 122 = some none := by kernel_rfl
theorem zc122 : tzc Tryz.prog 122 = some [(.int .u64 0)] := by kernel_rfl
theorem sr122 : tsrc Tryz.prog 122 = false := by kernel_rfl
theorem sz123 : tsz Tryz.prog 123 = some 1 := by kernel_rfl
theorem ag123 : tag Tryz.prog 123 = some none := by kernel_rfl
theorem zc123 : tzc Tryz.prog 123 = some [.nilFunc] := by kernel_rfl
theorem sr123 : tsrc Tryz.prog 123 = true := by kernel_rfl
theorem sz124 : tsz Tryz.prog 124 = some 1 := by kernel_rfl
theorem ag124 : tag Tryz.prog 124 = some none := by kernel_rfl
theorem zc124 : tzc Tryz.prog 124 = some [.nilFunc] := by kernel_rfl
theorem sr124 : tsrc Tryz.prog 124 = true := by kernel_rfl
theorem sz125 : tsz Tryz.prog 125 = some 1 := by kernel_rfl
theorem ag125 : tag Tryz.prog 125 = some none := by kernel_rfl
theorem zc125 : tzc Tryz.prog 125 = some [.nilFunc] := by kernel_rfl
theorem sr125 : tsrc Tryz.prog 125 = true := by kernel_rfl
theorem sz126 : tsz Tryz.prog 126 = some 1 := by kernel_rfl
theorem ag126 : tag Tryz.prog 126 = some none := by kernel_rfl
theorem zc126 : tzc Tryz.prog 126 = some [(.ptr none)] := by kernel_rfl
theorem sr126 : tsrc Tryz.prog 126 = true := by kernel_rfl
theorem sz127 : tsz Tryz.prog 127 = some 1 := by kernel_rfl
theorem ag127 : tag Tryz.prog 127 = some none := by kernel_rfl
theorem zc127 : tzc Tryz.prog 127 = some [.nilFunc] := by kernel_rfl
theorem sr127 : tsrc Tryz.prog 127 = true := by kernel_rfl
theorem sz128 : tsz Tryz.prog 128 = some 1 := by kernel_rfl
theorem ag128 : tag Tryz.prog 128 = some none := by kernel_rfl
theorem zc128 : tzc Tryz.prog 128 = some [.nilFunc] := by kernel_rfl
theorem sr128 : tsrc Tryz.prog 128 = true := by kernel_rfl
theorem sz129 : tsz Tryz.prog 129 = some 1 := by kernel_rfl
theorem ag129 : tag Tryz.prog 129 = some none := by kernel_rfl
theorem zc129 : tzc Tryz.prog 129 = some [.nilFunc] := by kernel_rfl
theorem sr129 : tsrc Tryz.prog 129 = true := by kernel_rfl
theorem sz130 : tsz Tryz.prog 130 = some 1 := by kernel_rfl
theorem ag130 : tag Tryz.prog 130 = some none := by kernel_rfl
theorem zc130 : tzc Tryz.prog 130 = some [(.ptr none)] := by kernel_rfl
theorem sr130 : tsrc Tryz.prog 130 = true := by kernel_rfl
theorem sz132 : tsz Tryz.prog 132 = some 1 := by kernel_rfl
theorem ag132 : tag Tryz.prog 132 = some none := by kernel_rfl
theorem zc132 : tzc Tryz.prog 132 = some [.nilFunc] := by kernel_rfl
theorem sr132 : tsrc Tryz.prog 132 = true := by kernel_rfl
theorem sz133 : tsz Tryz.prog 133 = some 1 := by kernel_rfl
theorem ag133 : tag Tryz.prog 133 = some none := by kernel_rfl
theorem zc133 : tzc Tryz.prog 133 = some [.nilFunc] := by kernel_rfl
theorem sr133 : tsrc Tryz.prog 133 = true := by kernel_rfl
theorem sz134 : tsz Tryz.prog 134 = some 1 := by kernel_rfl
theorem ag134 : tag Tryz.prog 134 = some none := by kernel_rfl
theorem zc134 : tzc Tryz.prog 134 = some [.nilFunc] := by kernel_rfl
theorem sr134 : tsrc Tryz.prog 134 = true := by kernel_rfl
theorem sz135 : tsz Tryz.prog 135 = some 4 := by kernel_rfl
theorem ag135 : tag Tryz.prog 135 = some (some 4) := by kernel_rfl
theorem zc135 : tzc Tryz.prog 135 = some [(.ptr none), (.ptr none), (.ptr none), (.str ⟨#[]⟩)] := by kernel_rfl
theorem sr135 : tsrc Tryz.prog 135 = true := by kernel_rfl
theorem fd135_0 : tfd Tryz.prog 135 0 = some (0, 17) := by kernel_rfl
theorem fo135_0 : tfo Tryz.prog 135 0 = some 0 := by kernel_rfl
theorem fd135_1 : tfd Tryz.prog 135 1 = some (1, 17) := by kernel_rfl
theorem fo135_1 : tfo Tryz.prog 135 1 = some 1 := by kernel_rfl
theorem fd135_2 : tfd Tryz.prog 135 2 = some (2, 17) := by kernel_rfl
theorem fo135_2 : tfo Tryz.prog 135 2 = some 2 := by kernel_rfl
theorem fd135_3 : tfd Tryz.prog 135 3 = some (3, 9) := by kernel_rfl
theorem fo135_3 : tfo Tryz.prog 135 3 = some 3 := by kernel_rfl
theorem pl135 : tpl Tryz.prog 135 = some [(0, 1), (1, 1), (2, 1), (3, 1)] := by kernel_rfl
theorem bd135 (ps : List (Nat × AV)) (K : AV → Prop) : aBuild Tryz.prog 135 ps K = aBld (tpl Tryz.prog 135) (tzc Tryz.prog 135) ps K := aBuild_eq (by rw [pl135]; rfl) ps K
theorem sz136 : tsz Tryz.prog 136 = some 4 := by kernel_rfl
theorem ag136 : tag Tryz.prog 136 = some (some 4) := by kernel_rfl
theorem zc136 : tzc Tryz.prog 136 = some [(.ptr none), (.ptr none), (.ptr none), (.str ⟨#[]⟩)] := by kernel_rfl
theorem sr136 : tsrc Tryz.prog 136 = true := by kernel_rfl
theorem fd136_0 : tfd Tryz.prog 136 0 = some (0, 17) := by kernel_rfl
theorem fo136_0 : tfo Tryz.prog 136 0 = some 0 := by kernel_rfl
theorem fd136_1 : tfd Tryz.prog 136 1 = some (1, 17) := by kernel_rfl
theorem fo136_1 : tfo Tryz.prog 136 1 = some 1 := by kernel_rfl
theorem fd136_2 : tfd Tryz.prog 136 2 = some (2, 17) := by kernel_rfl
theorem fo136_2 : tfo Tryz.prog 136 2 = some 2 := by kernel_rfl
theorem fd136_3 : tfd Tryz.prog 136 3 = some (3, 9) := by kernel_rfl
theorem fo136_3 : tfo Tryz.prog 136 3 = some 3 := by kernel_rfl
theorem pl136 : tpl Tryz.prog 136 = some [(0, 1), (1, 1), (2, 1), (3, 1)] := by kernel_rfl
theorem bd136 (ps : List (Nat × AV)) (K : AV → Prop) : aBuild Tryz.prog 136 ps K = aBld (tpl Tryz.prog 136) (tzc Tryz.prog 136) ps K := aBuild_eq (by rw [pl136]; rfl) ps K
theorem sz137 : tsz Tryz.prog 137 = some 0 := by kernel_rfl
theorem ag137 : tag Tryz.prog 137 = some (some 0) := by kernel_rfl
theorem zc137 : tzc Tryz.prog 137 = some [] := by kernel_rfl
theorem sr137 : tsrc Tryz.prog 137 = true := by kernel_rfl
theorem el137 : tel Tryz.prog 137 = some (some 0, 1) := by kernel_rfl
theorem ln137 : tlen Tryz.prog 137 = some (.arr 0) := by kernel_rfl
theorem sz138 : tsz Tryz.prog 138 = some 0 := by kernel_rfl
theorem ag138 : tag Tryz.prog 138 = some (some 0) := by kernel_rfl
theorem zc138 : tzc Tryz.prog 138 = some [] := by kernel_rfl
theorem sr138 : tsrc Tryz.prog 138 = true := by kernel_rfl
theorem fd138_0 : tfd Tryz.prog 138 0 = some (0, 137) := by kernel_rfl
theorem pl138 : tpl Tryz.prog 138 = some [(0, 0)] := by kernel_rfl
theorem bd138 (ps : List (Nat × AV)) (K : AV → Prop) : aBuild Tryz.prog 138 ps K = aBld (tpl Tryz.prog 138) (tzc Tryz.prog 138) ps K := aBuild_eq (by rw [pl138]; rfl) ps K
theorem sz139 : tsz Tryz.prog 139 = some 0 := by kernel_rfl
theorem ag139 : tag Tryz.prog 139 = some (some 0) := by kernel_rfl
theorem zc139 : tzc Tryz.prog 139 = some [] := by kernel_rfl
theorem sr139 : tsrc Tryz.prog 139 = true := by kernel_rfl
theorem fd139_0 : tfd Tryz.prog 139 0 = some (0, 137) := by kernel_rfl
theorem pl139 : tpl Tryz.prog 139 = some [(0, 0)] := by kernel_rfl
theorem bd139 (ps : List (Nat × AV)) (K : AV → Prop) : aBuild Tryz.prog 139 ps K = aBld (tpl Tryz.prog 139) (tzc Tryz.prog 139) ps K := aBuild_eq (by rw [pl139]; rfl) ps K
theorem sz140 : tsz Tryz.prog 140 = some 1 := by kernel_rfl
theorem ag140 : tag Tryz.prog 140 = some none := by kernel_rfl
theorem zc140 : tzc Tryz.prog 140 = some [.nilFunc] := by kernel_rfl
theorem sr140 : tsrc Tryz.prog 140 = true := by kernel_rfl
theorem sz141 : tsz Tryz.prog 141 = some 1 := by kernel_rfl
theorem ag141 : tag Tryz.prog 141 = some none := by kernel_rfl
theorem zc141 : tzc Tryz.prog 141 = some [(.int .u8 0)] := by kernel_rfl
theorem sr141 : tsrc Tryz.prog 141 = false := by kernel_rfl
theorem sz142 : tsz Tryz.prog 142 = some 1 := by kernel_rfl
theorem ag142 : tag Tryz.prog 142 = some none := by kernel_rfl
theorem zc142 : tzc Tryz.prog 142 = some [(.int .u8 0)] := by kernel_rfl
theorem sr142 : tsrc Tryz.prog 142 = false := by kernel_rfl
theorem sz143 : tsz Tryz.prog 143 = some 1 := by kernel_rfl
theorem ag143 : tag Tryz.prog 143 = some none := by kernel_rfl
theorem zc143 : tzc Tryz.prog 143 = some [.nilFunc] := by kernel_rfl
theorem sr143 : tsrc Tryz.prog 143 = true := by kernel_rfl
theorem sz144 : tsz Tryz.prog 144 = some 1 := by kernel_rfl
theorem ag144 : tag Tryz.prog 144 = some none := by kernel_rfl
theorem zc144 : tzc Tryz.prog 144 = some [(.ptr none)] := by kernel_rfl
theorem sr144 : tsrc Tryz.prog 144 = true := by kernel_rfl
theorem sz145 : tsz Tryz.prog 145 = some 1 := by kernel_rfl
theorem ag145 : tag Tryz.prog 145 = some none := by kernel_rfl
theorem zc145 : tzc Tryz.prog 145 = some [(.int .i32 0)] := by kernel_rfl
theorem sr145 : tsrc Tryz.prog 145 = false := by kernel_rfl
theorem sz146 : tsz Tryz.prog 146 = some 1 := by kernel_rfl
theorem ag146 : tag Tryz.prog 146 = some none := by kernel_rfl
theorem zc146 : tzc Tryz.prog 146 = some [(.int .i32 0)] := by kernel_rfl
theorem sr146 : tsrc Tryz.prog 146 = false := by kernel_rfl
theorem sz147 : tsz Tryz.prog 147 = some 11 := by kernel_rfl
theorem ag147 : tag Tryz.prog 147 = some (some 11) := by kernel_rfl
theorem zc147 : tzc Tryz.prog 147 = some [(.int .u64 0), (.int .u64 0), (.int .u32 0), (.int .u8 0), (.int .u8 0), (.int .u8 0), (.int .u8 0), .nilFunc, (.ptr none), (.int .i32 0), (.int .i32 0)] := by kernel_rfl
theorem sr147 : tsrc Tryz.prog 147 = true := by kernel_rfl
theorem fd147_0 : tfd Tryz.prog 147 0 = some (0, 12) := by kernel_rfl
theorem fo147_0 : tfo Tryz.prog 147 0 = some 0 := by kernel_rfl
theorem fd147_1 : tfd Tryz.prog 147 1 = some (1, 12) := by kernel_rfl
theorem fo147_1 : tfo Tryz.prog 147 1 = some 1 := by kernel_rfl
theorem fd147_2 : tfd Tryz.prog 147 2 = some (2, 112) := by kernel_rfl
theorem fo147_2 : tfo Tryz.prog 147 2 = some 2 := by kernel_rfl
theorem fd147_3 : tfd Tryz.prog 147 3 = some (3, 141) := by kernel_rfl
theorem fo147_3 : tfo Tryz.prog 147 3 = some 3 := by kernel_rfl
theorem fd147_4 : tfd Tryz.prog 147 4 = some (4, 5) := by kernel_rfl
theorem fo147_4 : tfo Tryz.prog 147 4 = some 4 := by kernel_rfl
theorem fd147_5 : tfd Tryz.prog 147 5 = some (5, 5) := by kernel_rfl
theorem fo147_5 : tfo Tryz.prog 147 5 = some 5 := by kernel_rfl
theorem fd147_6 : tfd Tryz.prog 147 6 = some (6, 142) := by kernel_rfl
theorem fo147_6 : tfo Tryz.prog 147 6 = some 6 := by kernel_rfl
theorem fd147_7 : tfd Tryz.prog 147 7 = some (7, 143) := by kernel_rfl
theorem fo147_7 : tfo Tryz.prog 147 7 = some 7 := by kernel_rfl
theorem fd147_8 : tfd Tryz.prog 147 8 = some (8, 144) := by kernel_rfl
theorem fo147_8 : tfo Tryz.prog 147 8 = some 8 := by kernel_rfl
theorem fd147_9 : tfd Tryz.prog 147 9 = some (9, 145) := by kernel_rfl
theorem fo147_9 : tfo Tryz.prog 147 9 = some 9 := by kernel_rfl
theorem fd147_10 : tfd Tryz.prog 147 10 = some (10, 146) := by kernel_rfl
theorem fo147_10 : tfo Tryz.prog 147 10 = some 10 := by kernel_rfl
theorem pl147 : tpl Tryz.prog 147 = some [(0, 1), (1, 1), (2, 1), (3, 1), (4, 1), (5, 1), (6, 1), (7, 1), (8, 1), (9, 1), (10, 1)] := by kernel_rfl
theorem bd147 (ps : List (Nat × AV)) (K : AV → Prop) : aBuild Tryz.prog 147 ps K = aBld (tpl Tryz.prog 147) (tzc Tryz.prog 147) ps K := aBuild_eq (by rw [pl147]; rfl) ps K
theorem sz148 : tsz Tryz.prog 148 = some 11 := by kernel_rfl
theorem ag148 : tag Tryz.prog 148 = some (some 11) := by kernel_rfl
theorem zc148 : tzc Tryz.prog 148 = some [(.int .u64 0), (.int .u64 0), (.int .u32 0), (.int .u8 0), (.int .u8 0), (.int .u8 0), (.int .u8 0), .nilFunc, (.ptr none), (.int .i32 0), (.int .i32 0)] := by kernel_rfl
theorem sr148 : tsrc Tryz.prog 148 = true := by kernel_rfl
theorem fd148_0 : tfd Tryz.prog 148 0 = some (0, 12) := by kernel_rfl
theorem fo148_0 : tfo Tryz.prog 148 0 = some 0 := by kernel_rfl
theorem fd148_1 : tfd Tryz.prog 148 1 = some (1, 12) := by kernel_rfl
theorem fo148_1 : tfo Tryz.prog 148 1 = some 1 := by kernel_rfl
theorem fd148_2 : tfd Tryz.prog 148 2 = some (2, 112) := by kernel_rfl
theorem fo148_2 : tfo Tryz.prog 148 2 = some 2 := by kernel_rfl
theorem fd148_3 : tfd Tryz.prog 148 3 = some (3, 141) := by kernel_rfl
theorem fo148_3 : tfo Tryz.prog 148 3 = some 3 := by kernel_rfl
theorem fd148_4 : tfd Tryz.prog 148 4 = some (4, 5) := by kernel_rfl
theorem fo148_4 : tfo Tryz.prog 148 4 = some 4 := by kernel_rfl
theorem fd148_5 : tfd Tryz.prog 148 5 = some (5, 5) := by kernel_rfl
theorem fo148_5 : tfo Tryz.prog 148 5 = some 5 := by kernel_rfl
theorem fd148_6 : tfd Tryz.prog 148 6 = some (6, 142) := by kernel_rfl
theorem fo148_6 : tfo Tryz.prog 148 6 = some 6 := by kernel_rfl
theorem fd148_7 : tfd Tryz.prog 148 7 = some (7, 143) := by kernel_rfl
theorem fo148_7 : tfo Tryz.prog 148 7 = some 7 := by kernel_rfl
theorem fd148_8 : tfd Tryz.prog 148 8 = some (8, 144) := by kernel_rfl
theorem fo148_8 : tfo Tryz.prog 148 8 = some 8 := by kernel_rfl
theorem fd148_9 : tfd Tryz.prog 148 9 = some (9, 145) := by kernel_rfl
theorem fo148_9 : tfo Tryz.prog 148 9 = some 9 := by kernel_rfl
theorem fd148_10 : tfd Tryz.prog 148 10 = some (10, 146) := by kernel_rfl
theorem fo148_10 : tfo Tryz.prog 148 10 = some 10 := by kernel_rfl
theorem pl148 : tpl Tryz.prog 148 = some [(0, 1), (1, 1), (2, 1), (3, 1), (4, 1), (5, 1), (6, 1), (7, 1), (8, 1), (9, 1), (10, 1)] := by kernel_rfl
theorem bd148 (ps : List (Nat × AV)) (K : AV → Prop) : aBuild Tryz.prog 148 ps K = aBld (tpl Tryz.prog 148) (tzc Tryz.prog 148) ps K := aBuild_eq (by rw [pl148]; rfl) ps K
theorem sz149 : tsz Tryz.prog 149 = some 1 := by kernel_rfl
theorem ag149 : tag Tryz.prog 149 = some none := by kernel_rfl
theorem zc149 : tzc Tryz.prog 149 = some [(.ptr none)] := by kernel_rfl
theorem sr149 : tsrc Tryz.prog 149 = true := by kernel_rfl
theorem mu68 : tmkey Tryz.prog 68 = some true := by kernel_rfl
theorem mu78 : tmkey Tryz.prog 78 = some true := by kernel_rfl
theorem ar137 : tarr Tryz.prog 137 = some (0, 1) := by kernel_rfl
theorem ba137 (ps : List (Nat × AV)) (K : AV → Prop) : aBuild Tryz.prog 137 ps K = aBldA (tarr Tryz.prog 137) (tzc Tryz.prog 137) ps K := aBuildA_eq (by rw [ar137]; rfl) ps K
theorem cv2_2 : tcv Tryz.prog 2 2 = some (some .i64) := by kernel_rfl
theorem cv2_3 : tcv Tryz.prog 2 3 = some (some .i64) := by kernel_rfl
theorem cv2_5 : tcv Tryz.prog 2 5 = some (some .u8) := by kernel_rfl
theorem cv2_6 : tcv Tryz.prog 2 6 = some (some .u8) := by kernel_rfl
theorem cv2_12 : tcv Tryz.prog 2 12 = some (some .u64) := by kernel_rfl
theorem cv2_21 : tcv Tryz.prog 2 21 = some (some .i32) := by kernel_rfl
theorem cv2_28 : tcv Tryz.prog 2 28 = some (some .i64) := by kernel_rfl
theorem cv2_70 : tcv Tryz.prog 2 70 = some (some .u64) := by kernel_rfl
theorem cv2_71 : tcv Tryz.prog 2 71 = some (some .u64) := by kernel_rfl
theorem cv2_103 : tcv Tryz.prog 2 103 = some (some .i64) := by kernel_rfl
theorem cv2_112 : tcv Tryz.prog 2 112 = some (some .u32) := by kernel_rfl
theorem cv2_114 : tcv Tryz.prog 2 114 = some (some .u64) := by kernel_rfl
theorem cv2_122 : tcv Tryz.prog 2 122 = some (some .u64) := by kernel_rfl
theorem cv2_141 : tcv Tryz.prog 2 141 = some (some .u8) := by kernel_rfl
theorem cv2_142 : tcv Tryz.prog 2 142 = some (some .u8) := by kernel_rfl
theorem cv2_145 : tcv Tryz.prog 2 145 = some (some .i32) := by kernel_rfl
theorem cv2_146 : tcv Tryz.prog 2 146 = some (some .i32) := by kernel_rfl
theorem cv3_2 : tcv Tryz.prog 3 2 = some (some .i64) := by kernel_rfl
theorem cv3_3 : tcv Tryz.prog 3 3 = some (some .i64) := by kernel_rfl
theorem cv3_5 : tcv Tryz.prog 3 5 = some (some .u8) := by kernel_rfl
theorem cv3_6 : tcv Tryz.prog 3 6 = some (some .u8) := by kernel_rfl
theorem cv3_12 : tcv Tryz.prog 3 12 = some (some .u64) := by kernel_rfl
theorem cv3_21 : tcv Tryz.prog 3 21 = some (some .i32) := by kernel_rfl
theorem cv3_28 : tcv Tryz.prog 3 28 = some (some .i64) := by kernel_rfl
theorem cv3_70 : tcv Tryz.prog 3 70 = some (some .u64) := by kernel_rfl
theorem cv3_71 : tcv Tryz.prog 3 71 = some (some .u64) := by kernel_rfl
theorem cv3_103 : tcv Tryz.prog 3 103 = some (some .i64) := by kernel_rfl
theorem cv3_112 : tcv Tryz.prog 3 112 = some (some .u32) := by kernel_rfl
theorem cv3_114 : tcv Tryz.prog 3 114 = some (some .u64) := by kernel_rfl
theorem cv3_122 : tcv Tryz.prog 3 122 = some (some .u64) := by kernel_rfl
theorem cv3_141 : tcv Tryz.prog 3 141 = some (some .u8) := by kernel_rfl
theorem cv3_142 : tcv Tryz.prog 3 142 = some (some .u8) := by kernel_rfl
theorem cv3_145 : tcv Tryz.prog 3 145 = some (some .i32) := by kernel_rfl
theorem cv3_146 : tcv Tryz.prog 3 146 = some (some .i32) := by kernel_rfl
theorem cv5_2 : tcv Tryz.prog 5 2 = some (some .i64) := by kernel_rfl
theorem cv5_3 : tcv Tryz.prog 5 3 = some (some .i64) := by kernel_rfl
theorem cv5_5 : tcv Tryz.prog 5 5 = some (some .u8) := by kernel_rfl
theorem cv5_6 : tcv Tryz.prog 5 6 = some (some .u8) := by kernel_rfl
theorem cv5_12 : tcv Tryz.prog 5 12 = some (some .u64) := by kernel_rfl
theorem cv5_21 : tcv Tryz.prog 5 21 = some (some .i32) := by kernel_rfl
theorem cv5_28 : tcv Tryz.prog 5 28 = some (some .i64) := by kernel_rfl
theorem cv5_70 : tcv Tryz.prog 5 70 = some (some .u64) := by kernel_rfl
theorem cv5_71 : tcv Tryz.prog 5 71 = some (some .u64) := by kernel_rfl
theorem cv5_103 : tcv Tryz.prog 5 103 = some (some .i64) := by kernel_rfl
theorem cv5_112 : tcv Tryz.prog 5 112 = some (some .u32) := by kernel_rfl
theorem cv5_114 : tcv Tryz.prog 5 114 = some (some .u64) := by kernel_rfl
theorem cv5_122 : tcv Tryz.prog 5 122 = some (some .u64) := by kernel_rfl
theorem cv5_141 : tcv Tryz.prog 5 141 = some (some .u8) := by kernel_rfl
theorem cv5_142 : tcv Tryz.prog 5 142 = some (some .u8) := by kernel_rfl
theorem cv5_145 : tcv Tryz.prog 5 145 = some (some .i32) := by kernel_rfl
theorem cv5_146 : tcv Tryz.prog 5 146 = some (some .i32) := by kernel_rfl
theorem cv6_2 : tcv Tryz.prog 6 2 = some (some .i64) := by kernel_rfl
theorem cv6_3 : tcv Tryz.prog 6 3 = some (some .i64) := by kernel_rfl
theorem cv6_5 : tcv Tryz.prog 6 5 = some (some .u8) := by kernel_rfl
theorem cv6_6 : tcv Tryz.prog 6 6 = some (some .u8) := by kernel_rfl
theorem cv6_12 : tcv Tryz.prog 6 12 = some (some .u64) := by kernel_rfl
theorem cv6_21 : tcv Tryz.prog 6 21 = some (some .i32) := by kernel_rfl
theorem cv6_28 : tcv Tryz.prog 6 28 = some (some .i64) := by kernel_rfl
theorem cv6_70 : tcv Tryz.prog 6 70 = some (some .u64) := by kernel_rfl
theorem cv6_71 : tcv Tryz.prog 6 71 = some (some .u64) := by kernel_rfl
theorem cv6_103 : tcv Tryz.prog 6 103 = some (some .i64) := by kernel_rfl
theorem cv6_112 : tcv Tryz.prog 6 112 = some (some .u32) := by kernel_rfl
theorem cv6_114 : tcv Tryz.prog 6 114 = some (some .u64) := by kernel_rfl
theorem cv6_122 : tcv Tryz.prog 6 122 = some (some .u64) := by kernel_rfl
theorem cv6_141 : tcv Tryz.prog 6 141 = some (some .u8) := by kernel_rfl
theorem cv6_142 : tcv Tryz.prog 6 142 = some (some .u8) := by kernel_rfl
theorem cv6_145 : tcv Tryz.prog 6 145 = some (some .i32) := by kernel_rfl
theorem cv6_146 : tcv Tryz.prog 6 146 = some (some .i32) := by kernel_rfl
theorem cv9_9 : tcv Tryz.prog 9 9 = some none := by kernel_rfl
theorem cv9_10 : tcv Tryz.prog 9 10 = some none := by kernel_rfl
theorem cv9_11 : tcv Tryz.prog 9 11 = some none := by kernel_rfl
theorem cv10_9 : tcv Tryz.prog 10 9 = some none := by kernel_rfl
theorem cv10_10 : tcv Tryz.prog 10 10 = some none := by kernel_rfl
theorem cv10_11 : tcv Tryz.prog 10 11 = some none := by kernel_rfl
theorem cv11_9 : tcv Tryz.prog 11 9 = some none := by kernel_rfl
theorem cv11_10 : tcv Tryz.prog 11 10 = some none := by kernel_rfl
theorem cv11_11 : tcv Tryz.prog 11 11 = some none := by kernel_rfl
theorem cv12_2 : tcv Tryz.prog 12 2 = some (some .i64) := by kernel_rfl
theorem cv12_3 : tcv Tryz.prog 12 3 = some (some .i64) := by kernel_rfl
theorem cv12_5 : tcv Tryz.prog 12 5 = some (some .u8) := by kernel_rfl
theorem cv12_6 : tcv Tryz.prog 12 6 = some (some .u8) := by kernel_rfl
theorem cv12_12 : tcv Tryz.prog 12 12 = some (some .u64) := by kernel_rfl
theorem cv12_21 : tcv Tryz.prog 12 21 = some (some .i32) := by kernel_rfl
theorem cv12_28 : tcv Tryz.prog 12 28 = some (some .i64) := by kernel_rfl
theorem cv12_70 : tcv Tryz.prog 12 70 = some (some .u64) := by kernel_rfl
theorem cv12_71 : tcv Tryz.prog 12 71 = some (some .u64) := by kernel_rfl
theorem cv12_103 : tcv Tryz.prog 12 103 = some (some .i64) := by kernel_rfl
theorem cv12_112 : tcv Tryz.prog 12 112 = some (some .u32) := by kernel_rfl
theorem cv12_114 : tcv Tryz.prog 12 114 = some (some .u64) := by kernel_rfl
theorem cv12_122 : tcv Tryz.prog 12 122 = some (some .u64) := by kernel_rfl
theorem cv12_141 : tcv Tryz.prog 12 141 = some (some .u8) := by kernel_rfl
theorem cv12_142 : tcv Tryz.prog 12 142 = some (some .u8) := by kernel_rfl
theorem cv12_145 : tcv Tryz.prog 12 145 = some (some .i32) := by kernel_rfl
theorem cv12_146 : tcv Tryz.prog 12 146 = some (some .i32) := by kernel_rfl
theorem cv21_2 : tcv Tryz.prog 21 2 = some (some .i64) := by kernel_rfl
theorem cv21_3 : tcv Tryz.prog 21 3 = some (some .i64) := by kernel_rfl
theorem cv21_5 : tcv Tryz.prog 21 5 = some (some .u8) := by kernel_rfl
theorem cv21_6 : tcv Tryz.prog 21 6 = some (some .u8) := by kernel_rfl
theorem cv21_12 : tcv Tryz.prog 21 12 = some (some .u64) := by kernel_rfl
theorem cv21_21 : tcv Tryz.prog 21 21 = some (some .i32) := by kernel_rfl
theorem cv21_28 : tcv Tryz.prog 21 28 = some (some .i64) := by kernel_rfl
theorem cv21_70 : tcv Tryz.prog 21 70 = some (some .u64) := by kernel_rfl
theorem cv21_71 : tcv Tryz.prog 21 71 = some (some .u64) := by kernel_rfl
theorem cv21_103 : tcv Tryz.prog 21 103 = some (some .i64) := by kernel_rfl
theorem cv21_112 : tcv Tryz.prog 21 112 = some (some .u32) := by kernel_rfl
theorem cv21_114 : tcv Tryz.prog 21 114 = some (some .u64) := by kernel_rfl
theorem cv21_122 : tcv Tryz.prog 21 122 = some (some .u64) := by kernel_rfl
theorem cv21_141 : tcv Tryz.prog 21 141 = some (some .u8) := by kernel_rfl
theorem cv21_142 : tcv Tryz.prog 21 142 = some (some .u8) := by kernel_rfl
theorem cv21_145 : tcv Tryz.prog 21 145 = some (some .i32) := by kernel_rfl
theorem cv21_146 : tcv Tryz.prog 21 146 = some (some .i32) := by kernel_rfl
theorem cv28_2 : tcv Tryz.prog 28 2 = some (some .i64) := by kernel_rfl
theorem cv28_3 : tcv Tryz.prog 28 3 = some (some .i64) := by kernel_rfl
theorem cv28_5 : tcv Tryz.prog 28 5 = some (some .u8) := by kernel_rfl
theorem cv28_6 : tcv Tryz.prog 28 6 = some (some .u8) := by kernel_rfl
theorem cv28_12 : tcv Tryz.prog 28 12 = some (some .u64) := by kernel_rfl
theorem cv28_21 : tcv Tryz.prog 28 21 = some (some .i32) := by kernel_rfl
theorem cv28_28 : tcv Tryz.prog 28 28 = some (some .i64) := by kernel_rfl
theorem cv28_70 : tcv Tryz.prog 28 70 = some (some .u64) := by kernel_rfl
theorem cv28_71 : tcv Tryz.prog 28 71 = some (some .u64) := by kernel_rfl
theorem cv28_103 : tcv Tryz.prog 28 103 = some (some .i64) := by kernel_rfl
theorem cv28_112 : tcv Tryz.prog 28 112 = some (some .u32) := by kernel_rfl
theorem cv28_114 : tcv Tryz.prog 28 114 = some (some .u64) := by kernel_rfl
theorem cv28_122 : tcv Tryz.prog 28 122 = some (some .u64) := by kernel_rfl
theorem cv28_141 : tcv Tryz.prog 28 141 = some (some .u8) := by kernel_rfl
theorem cv28_142 : tcv Tryz.prog 28 142 = some (some .u8) := by kernel_rfl
theorem cv28_145 : tcv Tryz.prog 28 145 = some (some .i32) := by kernel_rfl
theorem cv28_146 : tcv Tryz.prog 28 146 = some (some .i32) := by kernel_rfl
theorem cv70_2 : tcv Tryz.prog 70 2 = some (some .i64) := by kernel_rfl
theorem cv70_3 : tcv Tryz.prog 70 3 = some (some .i64) := by kernel_rfl
theorem cv70_5 : tcv Tryz.prog 70 5 = some (some .u8) := by kernel_rfl
theorem cv70_6 : tcv Tryz.prog 70 6 = some (some .u8) := by kernel_rfl
theorem cv70_12 : tcv Tryz.prog 70 12 = some (some .u64) := by kernel_rfl
theorem cv70_21 : tcv Tryz.prog 70 21 = some (some .i32) := by kernel_rfl
theorem cv70_28 : tcv Tryz.prog 70 28 = some (some .i64) := by kernel_rfl
theorem cv70_70 : tcv Tryz.prog 70 70 = some (some .u64) := by kernel_rfl
theorem cv70_71 : tcv Tryz.prog 70 71 = some (some .u64) := by kernel_rfl
theorem cv70_103 : tcv Tryz.prog 70 103 = some (some .i64) := by kernel_rfl
theorem cv70_112 : tcv Tryz.prog 70 112 = some (some .u32) := by kernel_rfl
theorem cv70_114 : tcv Tryz.prog 70 114 = some (some .u64) := by kernel_rfl
theorem cv70_122 : tcv Tryz.prog 70 122 = some (some .u64) := by kernel_rfl
theorem cv70_141 : tcv Tryz.prog 70 141 = some (some .u8) := by kernel_rfl
theorem cv70_142 : tcv Tryz.prog 70 142 = some (some .u8) := by kernel_rfl
theorem cv70_145 : tcv Tryz.prog 70 145 = some (some .i32) := by kernel_rfl
theorem cv70_146 : tcv Tryz.prog 70 146 = some (some .i32) := by kernel_rfl
theorem cv71_2 : tcv Tryz.prog 71 2 = some (some .i64) := by kernel_rfl
theorem cv71_3 : tcv Tryz.prog 71 3 = some (some .i64) := by kernel_rfl
theorem cv71_5 : tcv Tryz.prog 71 5 = some (some .u8) := by kernel_rfl
theorem cv71_6 : tcv Tryz.prog 71 6 = some (some .u8) := by kernel_rfl
theorem cv71_12 : tcv Tryz.prog 71 12 = some (some .u64) := by kernel_rfl
theorem cv71_21 : tcv Tryz.prog 71 21 = some (some .i32) := by kernel_rfl
theorem cv71_28 : tcv Tryz.prog 71 28 = some (some .i64) := by kernel_rfl
theorem cv71_70 : tcv Tryz.prog 71 70 = some (some .u64) := by kernel_rfl
theorem cv71_71 : tcv Tryz.prog 71 71 = some (some .u64) := by kernel_rfl
theorem cv71_103 : tcv Tryz.prog 71 103 = some (some .i64) := by kernel_rfl
theorem cv71_112 : tcv Tryz.prog 71 112 = some (some .u32) := by kernel_rfl
theorem cv71_114 : tcv Tryz.prog 71 114 = some (some .u64) := by kernel_rfl
theorem cv71_122 : tcv Tryz.prog 71 122 = some (some .u64) := by kernel_rfl
theorem cv71_141 : tcv Tryz.prog 71 141 = some (some .u8) := by kernel_rfl
theorem cv71_142 : tcv Tryz.prog 71 142 = some (some .u8) := by kernel_rfl
theorem cv71_145 : tcv Tryz.prog 71 145 = some (some .i32) := by kernel_rfl
theorem cv71_146 : tcv Tryz.prog 71 146 = some (some .i32) := by kernel_rfl
theorem cv103_2 : tcv Tryz.prog 103 2 = some (some .i64) := by kernel_rfl
theorem cv103_3 : tcv Tryz.prog 103 3 = some (some .i64) := by kernel_rfl
theorem cv103_5 : tcv Tryz.prog 103 5 = some (some .u8) := by kernel_rfl
theorem cv103_6 : tcv Tryz.prog 103 6 = some (some .u8) := by kernel_rfl
theorem cv103_12 : tcv Tryz.prog 103 12 = some (some .u64) := by kernel_rfl
theorem cv103_21 : tcv Tryz.prog 103 21 = some (some .i32) := by kernel_rfl
theorem cv103_28 : tcv Tryz.prog 103 28 = some (some .i64) := by kernel_rfl
theorem cv103_70 : tcv Tryz.prog 103 70 = some (some .u64) := by kernel_rfl
theorem cv103_71 : tcv Tryz.prog 103 71 = some (some .u64) := by kernel_rfl
theorem cv103_103 : tcv Tryz.prog 103 103 = some (some .i64) := by kernel_rfl
theorem cv103_112 : tcv Tryz.prog 103 112 = some (some .u32) := by kernel_rfl
theorem cv103_114 : tcv Tryz.prog 103 114 = some (some .u64) := by kernel_rfl
theorem cv103_122 : tcv Tryz.prog 103 122 = some (some .u64) := by kernel_rfl
theorem cv103_141 : tcv Tryz.prog 103 141 = some (some .u8) := by kernel_rfl
theorem cv103_142 : tcv Tryz.prog 103 142 = some (some .u8) := by kernel_rfl
theorem cv103_145 : tcv Tryz.prog 103 145 = some (some .i32) := by kernel_rfl
theorem cv103_146 : tcv Tryz.prog 103 146 = some (some .i32) := by kernel_rfl
theorem cv112_2 : tcv Tryz.prog 112 2 = some (some .i64) := by kernel_rfl
theorem cv112_3 : tcv Tryz.prog 112 3 = some (some .i64) := by kernel_rfl
theorem cv112_5 : tcv Tryz.prog 112 5 = some (some .u8) := by kernel_rfl
theorem cv112_6 : tcv Tryz.prog 112 6 = some (some .u8) := by kernel_rfl
theorem cv112_12 : tcv Tryz.prog 112 12 = some (some .u64) := by kernel_rfl
theorem cv112_21 : tcv Tryz.prog 112 21 = some (some .i32) := by kernel_rfl
theorem cv112_28 : tcv Tryz.prog 112 28 = some (some .i64) := by kernel_rfl
theorem cv112_70 : tcv Tryz.prog 112 70 = some (some .u64) := by kernel_rfl
theorem cv112_71 : tcv Tryz.prog 112 71 = some (some .u64) := by kernel_rfl
theorem cv112_103 : tcv Tryz.prog 112 103 = some (some .i64) := by kernel_rfl
theorem cv112_112 : tcv Tryz.prog 112 112 = some (some .u32) := by kernel_rfl
theorem cv112_114 : tcv Tryz.prog 112 114 = some (some .u64) := by kernel_rfl
theorem cv112_122 : tcv Tryz.prog 112 122 = some (some .u64) := by kernel_rfl
theorem cv112_141 : tcv Tryz.prog 112 141 = some (some .u8) := by kernel_rfl
theorem cv112_142 : tcv Tryz.prog 112 142 = some (some .u8) := by kernel_rfl
theorem cv112_145 : tcv Tryz.prog 112 145 = some (some .i32) := by kernel_rfl
theorem cv112_146 : tcv Tryz.prog 112 146 = some (some .i32) := by kernel_rfl
theorem cv114_2 : tcv Tryz.prog 114 2 = some (some .i64) := by kernel_rfl
theorem cv114_3 : tcv Tryz.prog 114 3 = some (some .i64) := by kernel_rfl
theorem cv114_5 : tcv Tryz.prog 114 5 = some (some .u8) := by kernel_rfl
theorem cv114_6 : tcv Tryz.prog 114 6 = some (some .u8) := by kernel_rfl
theorem cv114_12 : tcv Tryz.prog 114 12 = some (some .u64) := by kernel_rfl
theorem cv114_21 : tcv Tryz.prog 114 21 = some (some .i32) := by kernel_rfl
theorem cv114_28 : tcv Tryz.prog 114 28 = some (some .i64) := by kernel_rfl
theorem cv114_70 : tcv Tryz.prog 114 70 = some (some .u64) := by kernel_rfl
theorem cv114_71 : tcv Tryz.prog 114 71 = some (some .u64) := by kernel_rfl
theorem cv114_103 : tcv Tryz.prog 114 103 = some (some .i64) := by kernel_rfl
theorem cv114_112 : tcv Tryz.prog 114 112 = some (some .u32) := by kernel_rfl
theorem cv114_114 : tcv Tryz.prog 114 114 = some (some .u64) := by kernel_rfl
theorem cv114_122 : tcv Tryz.prog 114 122 = some (some .u64) := by kernel_rfl
theorem cv114_141 : tcv Tryz.prog 114 141 = some (some .u8) := by kernel_rfl
theorem cv114_142 : tcv Tryz.prog 114 142 = some (some .u8) := by kernel_rfl
theorem cv114_145 : tcv Tryz.prog 114 145 = some (some .i32) := by kernel_rfl
theorem cv114_146 : tcv Tryz.prog 114 146 = some (some .i32) := by kernel_rfl
theorem cv122_2 : tcv Tryz.prog 122 2 = some (some .i64) := by kernel_rfl
theorem cv122_3 : tcv Tryz.prog 122 3 = some (some .i64) := by kernel_rfl
theorem cv122_5 : tcv Tryz.prog 122 5 = some (some .u8) := by kernel_rfl
theorem cv122_6 : tcv Tryz.prog 122 6 = some (some .u8) := by kernel_rfl
theorem cv122_12 : tcv Tryz.prog 122 12 = some (some .u64) := by kernel_rfl
theorem cv122_21 : tcv Tryz.prog 122 21 = some (some .i32) := by kernel_rfl
theorem cv122_28 : tcv Tryz.prog 122 28 = some (some .i64) := by kernel_rfl
theorem cv122_70 : tcv Tryz.prog 122 70 = some (some .u64) := by kernel_rfl
theorem cv122_71 : tcv Tryz.prog 122 71 = some (some .u64) := by kernel_rfl
theorem cv122_103 : tcv Tryz.prog 122 103 = some (some .i64) := by kernel_rfl
theorem cv122_112 : tcv Tryz.prog 122 112 = some (some .u32) := by kernel_rfl
theorem cv122_114 : tcv Tryz.prog 122 114 = some (some .u64) := by kernel_rfl
theorem cv122_122 : tcv Tryz.prog 122 122 = some (some .u64) := by kernel_rfl
theorem cv122_141 : tcv Tryz.prog 122 141 = some (some .u8) := by kernel_rfl
theorem cv122_142 : tcv Tryz.prog 122 142 = some (some .u8) := by kernel_rfl
theorem cv122_145 : tcv Tryz.prog 122 145 = some (some .i32) := by kernel_rfl
theorem cv122_146 : tcv Tryz.prog 122 146 = some (some .i32) := by kernel_rfl
theorem cv141_2 : tcv Tryz.prog 141 2 = some (some .i64) := by kernel_rfl
theorem cv141_3 : tcv Tryz.prog 141 3 = some (some .i64) := by kernel_rfl
theorem cv141_5 : tcv Tryz.prog 141 5 = some (some .u8) := by kernel_rfl
theorem cv141_6 : tcv Tryz.prog 141 6 = some (some .u8) := by kernel_rfl
theorem cv141_12 : tcv Tryz.prog 141 12 = some (some .u64) := by kernel_rfl
theorem cv141_21 : tcv Tryz.prog 141 21 = some (some .i32) := by kernel_rfl
theorem cv141_28 : tcv Tryz.prog 141 28 = some (some .i64) := by kernel_rfl
theorem cv141_70 : tcv Tryz.prog 141 70 = some (some .u64) := by kernel_rfl
theorem cv141_71 : tcv Tryz.prog 141 71 = some (some .u64) := by kernel_rfl
theorem cv141_103 : tcv Tryz.prog 141 103 = some (some .i64) := by kernel_rfl
theorem cv141_112 : tcv Tryz.prog 141 112 = some (some .u32) := by kernel_rfl
theorem cv141_114 : tcv Tryz.prog 141 114 = some (some .u64) := by kernel_rfl
theorem cv141_122 : tcv Tryz.prog 141 122 = some (some .u64) := by kernel_rfl
theorem cv141_141 : tcv Tryz.prog 141 141 = some (some .u8) := by kernel_rfl
theorem cv141_142 : tcv Tryz.prog 141 142 = some (some .u8) := by kernel_rfl
theorem cv141_145 : tcv Tryz.prog 141 145 = some (some .i32) := by kernel_rfl
theorem cv141_146 : tcv Tryz.prog 141 146 = some (some .i32) := by kernel_rfl
theorem cv142_2 : tcv Tryz.prog 142 2 = some (some .i64) := by kernel_rfl
theorem cv142_3 : tcv Tryz.prog 142 3 = some (some .i64) := by kernel_rfl
theorem cv142_5 : tcv Tryz.prog 142 5 = some (some .u8) := by kernel_rfl
theorem cv142_6 : tcv Tryz.prog 142 6 = some (some .u8) := by kernel_rfl
theorem cv142_12 : tcv Tryz.prog 142 12 = some (some .u64) := by kernel_rfl
theorem cv142_21 : tcv Tryz.prog 142 21 = some (some .i32) := by kernel_rfl
theorem cv142_28 : tcv Tryz.prog 142 28 = some (some .i64) := by kernel_rfl
theorem cv142_70 : tcv Tryz.prog 142 70 = some (some .u64) := by kernel_rfl
theorem cv142_71 : tcv Tryz.prog 142 71 = some (some .u64) := by kernel_rfl
theorem cv142_103 : tcv Tryz.prog 142 103 = some (some .i64) := by kernel_rfl
theorem cv142_112 : tcv Tryz.prog 142 112 = some (some .u32) := by kernel_rfl
theorem cv142_114 : tcv Tryz.prog 142 114 = some (some .u64) := by kernel_rfl
theorem cv142_122 : tcv Tryz.prog 142 122 = some (some .u64) := by kernel_rfl
theorem cv142_141 : tcv Tryz.prog 142 141 = some (some .u8) := by kernel_rfl
theorem cv142_142 : tcv Tryz.prog 142 142 = some (some .u8) := by kernel_rfl
theorem cv142_145 : tcv Tryz.prog 142 145 = some (some .i32) := by kernel_rfl
theorem cv142_146 : tcv Tryz.prog 142 146 = some (some .i32) := by kernel_rfl
theorem cv145_2 : tcv Tryz.prog 145 2 = some (some .i64) := by kernel_rfl
theorem cv145_3 : tcv Tryz.prog 145 3 = some (some .i64) := by kernel_rfl
theorem cv145_5 : tcv Tryz.prog 145 5 = some (some .u8) := by kernel_rfl
theorem cv145_6 : tcv Tryz.prog 145 6 = some (some .u8) := by kernel_rfl
theorem cv145_12 : tcv Tryz.prog 145 12 = some (some .u64) := by kernel_rfl
theorem cv145_21 : tcv Tryz.prog 145 21 = some (some .i32) := by kernel_rfl
theorem cv145_28 : tcv Tryz.prog 145 28 = some (some .i64) := by kernel_rfl
theorem cv145_70 : tcv Tryz.prog 145 70 = some (some .u64) := by kernel_rfl
theorem cv145_71 : tcv Tryz.prog 145 71 = some (some .u64) := by kernel_rfl
theorem cv145_103 : tcv Tryz.prog 145 103 = some (some .i64) := by kernel_rfl
theorem cv145_112 : tcv Tryz.prog 145 112 = some (some .u32) := by kernel_rfl
theorem cv145_114 : tcv Tryz.prog 145 114 = some (some .u64) := by kernel_rfl
theorem cv145_122 : tcv Tryz.prog 145 122 = some (some .u64) := by kernel_rfl
theorem cv145_141 : tcv Tryz.prog 145 141 = some (some .u8) := by kernel_rfl
theorem cv145_142 : tcv Tryz.prog 145 142 = some (some .u8) := by kernel_rfl
theorem cv145_145 : tcv Tryz.prog 145 145 = some (some .i32) := by kernel_rfl
theorem cv145_146 : tcv Tryz.prog 145 146 = some (some .i32) := by kernel_rfl
theorem cv146_2 : tcv Tryz.prog 146 2 = some (some .i64) := by kernel_rfl
theorem cv146_3 : tcv Tryz.prog 146 3 = some (some .i64) := by kernel_rfl
theorem cv146_5 : tcv Tryz.prog 146 5 = some (some .u8) := by kernel_rfl
theorem cv146_6 : tcv Tryz.prog 146 6 = some (some .u8) := by kernel_rfl
theorem cv146_12 : tcv Tryz.prog 146 12 = some (some .u64) := by kernel_rfl
theorem cv146_21 : tcv Tryz.prog 146 21 = some (some .i32) := by kernel_rfl
theorem cv146_28 : tcv Tryz.prog 146 28 = some (some .i64) := by kernel_rfl
theorem cv146_70 : tcv Tryz.prog 146 70 = some (some .u64) := by kernel_rfl
theorem cv146_71 : tcv Tryz.prog 146 71 = some (some .u64) := by kernel_rfl
theorem cv146_103 : tcv Tryz.prog 146 103 = some (some .i64) := by kernel_rfl
theorem cv146_112 : tcv Tryz.prog 146 112 = some (some .u32) := by kernel_rfl
theorem cv146_114 : tcv Tryz.prog 146 114 = some (some .u64) := by kernel_rfl
theorem cv146_122 : tcv Tryz.prog 146 122 = some (some .u64) := by kernel_rfl
theorem cv146_141 : tcv Tryz.prog 146 141 = some (some .u8) := by kernel_rfl
theorem cv146_142 : tcv Tryz.prog 146 142 = some (some .u8) := by kernel_rfl
theorem cv146_145 : tcv Tryz.prog 146 145 = some (some .i32) := by kernel_rfl
theorem cv146_146 : tcv Tryz.prog 146 146 = some (some .i32) := by kernel_rfl
attribute [go_sem] sz1 ag1 zc1 sr1 sz2 ag2 zc2 sr2 sz3 ag3 zc3 sr3 sz4 ag4 zc4 sr4 bo4 sz5 ag5 zc5 sr5 sz6 ag6 zc6 sr6 sz7 ag7 zc7 sr7 fd7_0 fo7_0 fd7_1 fo7_1 fd7_2 fo7_2 fd7_3 fo7_3 pl7 bd7 sz8 ag8 zc8 sr8 fd8_0 fo8_0 fd8_1 fo8_1 fd8_2 fo8_2 fd8_3 fo8_3 pl8 bd8 sz9 ag9 zc9 sr9 cu9 ln9 sz10 ag10 zc10 sr10 cu10 ln10 sz11 ag11 zc11 sr11 cu11 ln11 sz12 ag12 zc12 sr12 sz13 ag13 zc13 sr13 fd13_0 fo13_0 fd13_1 fo13_1 pl13 bd13 sz14 ag14 zc14 sr14 fd14_0 fo14_0 fd14_1 fo14_1 pl14 bd14 sz15 ag15 zc15 sr15 sz16 ag16 zc16 sr16 sz17 ag17 zc17 sr17 sz18 ag18 zc18 sr18 fd18_0 fo18_0 pl18 bd18 sz19 ag19 zc19 sr19 fd19_0 fo19_0 pl19 bd19 sz20 ag20 zc20 sr20 sz21 ag21 zc21 sr21 sz22 ag22 zc22 sr22 el22 cu22 ap22 bs22 ms22 mm22 mc22 mb22 ma22 ae22_22 ln22 sz23 ag23 zc23 sr23 fd23_0 fo23_0 fd23_1 fo23_1 fd23_2 fo23_2 pl23 bd23 sz24 ag24 zc24 sr24 fd24_0 fo24_0 fd24_1 fo24_1 fd24_2 fo24_2 pl24 bd24 sz25 ag25 zc25 sr25 sz26 ag26 zc26 sr26 sz27 ag27 zc27 sr27 el27 cu27 ap27 bs27 ms27 mm27 mc27 mb27 ma27 ae27_27 ln27 sz28 ag28 zc28 sr28 sz30 ag30 zc30 sr30 sz31 ag31 zc31 sr31 sz32 ag32 zc32 sr32 sz33 ag33 zc33 sr33 el33 cu33 ap33 bs33 ms33 mm33 mc33 mb33 ma33 ae33_33 ln33 sz35 ag35 zc35 sr35 sz37 ag37 zc37 sr37 sz38 ag38 zc38 sr38 sz39 ag39 zc39 sr39 sz40 ag40 zc40 sr40 sz41 ag41 zc41 sr41 sz42 ag42 zc42 sr42 sz43 ag43 zc43 sr43 sz44 ag44 zc44 sr44 sz46 ag46 zc46 sr46 sz47 ag47 zc47 sr47 sz48 ag48 zc48 sr48 sz49 ag49 zc49 sr49 sz50 ag50 zc50 sr50 sz51 ag51 zc51 sr51 sz52 ag52 zc52 sr52 sz53 ag53 zc53 sr53 sz54 ag54 zc54 sr54 sz55 ag55 zc55 sr55 sz56 ag56 zc56 sr56 sz57 ag57 zc57 sr57 sz58 ag58 zc58 sr58 sz59 ag59 zc59 sr59 sz60 ag60 zc60 sr60 sz61 ag61 zc61 sr61 sz62 ag62 zc62 sr62 sz63 ag63 zc63 sr63 sz64 ag64 zc64 sr64 sz65 ag65 zc65 sr65 sz66 ag66 zc66 sr66 sz67 ag67 zc67 sr67 sz68 ag68 zc68 sr68 ln68 mk68 sz69 ag69 zc69 sr69 sz70 ag70 zc70 sr70 sz71 ag71 zc71 sr71 sz72 ag72 zc72 sr72 sz73 ag73 zc73 sr73 fd73_0 fo73_0 fd73_1 fo73_1 fd73_2 fo73_2 pl73 bd73 sz74 ag74 zc74 sr74 fd74_0 fo74_0 fd74_1 fo74_1 fd74_2 fo74_2 pl74 bd74 sz76 ag76 zc76 sr76 sz77 ag77 zc77 sr77 sz78 ag78 zc78 sr78 ln78 mk78 sz79 ag79 zc79 sr79 sz80 ag80 zc80 sr80 sz81 ag81 zc81 sr81 sz82 ag82 zc82 sr82 sz83 ag83 zc83 sr83 sz84 ag84 zc84 sr84 sz85 ag85 zc85 sr85 sz86 ag86 zc86 sr86 sz87 ag87 zc87 sr87 sz88 ag88 zc88 sr88 sz89 ag89 zc89 sr89 sz90 ag90 zc90 sr90 el90 cu90 ap90 bs90 ms90 mm90 mc90 mb90 ma90 ae90_90 ln90 sz91 ag91 zc91 sr91 sz92 ag92 zc92 sr92 sz93 ag93 zc93 sr93 sz94 ag94 zc94 sr94 sz95 ag95 zc95 sr95 sz96 ag96 zc96 sr96 sz97 ag97 zc97 sr97 sz98 ag98 zc98 sr98 sz99 ag99 zc99 sr99 sz100 ag100 zc100 sr100 sz101 ag101 zc101 sr101 sz102 ag102 zc102 sr102 sz103 ag103 zc103 sr103 sz105 ag105 zc105 sr105 sz106 ag106 zc106 sr106 sz107 ag107 zc107 sr107 sz108 ag108 zc108 sr108 sz110 ag110 zc110 sr110 sz111 ag111 zc111 sr111 sz112 ag112 zc112 sr112 sz113 ag113 zc113 sr113 sz114 ag114 zc114 sr114 sz115 ag115 zc115 sr115 sz116 ag116 zc116 sr116 sz117 ag117 zc117 sr117 sz118 ag118 zc118 sr118 sz119 ag119 zc119 sr119 sz120 ag120 zc120 sr120 sz121 ag121 zc121 sr121 sz122 ag122 zc122 sr122 sz123 ag123 zc123 sr123 sz124 ag124 zc124 sr124 sz125 ag125 zc125 sr125 sz126 ag126 zc126 sr126 sz127 ag127 zc127 sr127 sz128 ag128 zc128 sr128 sz129 ag129 zc129 sr129 sz130 ag130 zc130 sr130 sz132 ag132 zc132 sr132 sz133 ag133 zc133 sr133 sz134 ag134 zc134 sr134 sz135 ag135 zc135 sr135 fd135_0 fo135_0 fd135_1 fo135_1 fd135_2 fo135_2 fd135_3 fo135_3 pl135 bd135 sz136 ag136 zc136 sr136 fd136_0 fo136_0 fd136_1 fo136_1 fd136_2 fo136_2 fd136_3 fo136_3 pl136 bd136 sz137 ag137 zc137 sr137 el137 ln137 sz138 ag138 zc138 sr138 fd138_0 pl138 bd138 sz139 ag139 zc139 sr139 fd139_0 pl139 bd139 sz140 ag140 zc140 sr140 sz141 ag141 zc141 sr141 sz142 ag142 zc142 sr142 sz143 ag143 zc143 sr143 sz144 ag144 zc144 sr144 sz145 ag145 zc145 sr145 sz146 ag146 zc146 sr146 sz147 ag147 zc147 sr147 fd147_0 fo147_0 fd147_1 fo147_1 fd147_2 fo147_2 fd147_3 fo147_3 fd147_4 fo147_4 fd147_5 fo147_5 fd147_6 fo147_6 fd147_7 fo147_7 fd147_8 fo147_8 fd147_9 fo147_9 fd147_10 fo147_10 pl147 bd147 sz148 ag148 zc148 sr148 fd148_0 fo148_0 fd148_1 fo148_1 fd148_2 fo148_2 fd148_3 fo148_3 fd148_4 fo148_4 fd148_5 fo148_5 fd148_6 fo148_6 fd148_7 fo148_7 fd148_8 fo148_8 fd148_9 fo148_9 fd148_10 fo148_10 pl148 bd148 sz149 ag149 zc149 sr149 mu68 mu78 ar137 ba137 cv2_2 cv2_3 cv2_5 cv2_6 cv2_12 cv2_21 cv2_28 cv2_70 cv2_71 cv2_103 cv2_112 cv2_114 cv2_122 cv2_141 cv2_142 cv2_145 cv2_146 cv3_2 cv3_3 cv3_5 cv3_6 cv3_12 cv3_21 cv3_28 cv3_70 cv3_71 cv3_103 cv3_112 cv3_114 cv3_122 cv3_141 cv3_142 cv3_145 cv3_146 cv5_2 cv5_3 cv5_5 cv5_6 cv5_12 cv5_21 cv5_28 cv5_70 cv5_71 cv5_103 cv5_112 cv5_114 cv5_122 cv5_141 cv5_142 cv5_145 cv5_146 cv6_2 cv6_3 cv6_5 cv6_6 cv6_12 cv6_21 cv6_28 cv6_70 cv6_71 cv6_103 cv6_112 cv6_114 cv6_122 cv6_141 cv6_142 cv6_145 cv6_146 cv9_9 cv9_10 cv9_11 cv10_9 cv10_10 cv10_11 cv11_9 cv11_10 cv11_11 cv12_2 cv12_3 cv12_5 cv12_6 cv12_12 cv12_21 cv12_28 cv12_70 cv12_71 cv12_103 cv12_112 cv12_114 cv12_122 cv12_141 cv12_142 cv12_145 cv12_146 cv21_2 cv21_3 cv21_5 cv21_6 cv21_12 cv21_21 cv21_28 cv21_70 cv21_71 cv21_103 cv21_112 cv21_114 cv21_122 cv21_141 cv21_142 cv21_145 cv21_146 cv28_2 cv28_3 cv28_5 cv28_6 cv28_12 cv28_21 cv28_28 cv28_70 cv28_71 cv28_103 cv28_112 cv28_114 cv28_122 cv28_141 cv28_142 cv28_145 cv28_146 cv70_2 cv70_3 cv70_5 cv70_6 cv70_12 cv70_21 cv70_28 cv70_70 cv70_71 cv70_103 cv70_112 cv70_114 cv70_122 cv70_141 cv70_142 cv70_145 cv70_146 cv71_2 cv71_3 cv71_5 cv71_6 cv71_12 cv71_21 cv71_28 cv71_70 cv71_71 cv71_103 cv71_112 cv71_114 cv71_122 cv71_141 cv71_142 cv71_145 cv71_146 cv103_2 cv103_3 cv103_5 cv103_6 cv103_12 cv103_21 cv103_28 cv103_70 cv103_71 cv103_103 cv103_112 cv103_114 cv103_122 cv103_141 cv103_142 cv103_145 cv103_146 cv112_2 cv112_3 cv112_5 cv112_6 cv112_12 cv112_21 cv112_28 cv112_70 cv112_71 cv112_103 cv112_112 cv112_114 cv112_122 cv112_141 cv112_142 cv112_145 cv112_146 cv114_2 cv114_3 cv114_5 cv114_6 cv114_12 cv114_21 cv114_28 cv114_70 cv114_71 cv114_103 cv114_112 cv114_114 cv114_122 cv114_141 cv114_142 cv114_145 cv114_146 cv122_2 cv122_3 cv122_5 cv122_6 cv122_12 cv122_21 cv122_28 cv122_70 cv122_71 cv122_103 cv122_112 cv122_114 cv122_122 cv122_141 cv122_142 cv122_145 cv122_146 cv141_2 cv141_3 cv141_5 cv141_6 cv141_12 cv141_21 cv141_28 cv141_70 cv141_71 cv141_103 cv141_112 cv141_114 cv141_122 cv141_141 cv141_142 cv141_145 cv141_146 cv142_2 cv142_3 cv142_5 cv142_6 cv142_12 cv142_21 cv142_28 cv142_70 cv142_71 cv142_103 cv142_112 cv142_114 cv142_122 cv142_141 cv142_142 cv142_145 cv142_146 cv145_2 cv145_3 cv145_5 cv145_6 cv145_12 cv145_21 cv145_28 cv145_70 cv145_71 cv145_103 cv145_112 cv145_114 cv145_122 cv145_141 cv145_142 cv145_145 cv145_146 cv146_2 cv146_3 cv146_5 cv146_6 cv146_12 cv146_21 cv146_28 cv146_70 cv146_71 cv146_103 cv146_112 cv146_114 cv146_122 cv146_141 cv146_142 cv146_145 cv146_146
end Go.Proofs.YtlgamlamolfnlaaGreat.Ty
