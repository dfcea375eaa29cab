/- Texts joined: Ty. No conditions. -/
import Derived.Test.YtnioapinljedmaaGreatProg
import Derived.Test.YtnioapinljedmaaGreatMrE
import Derived.KernelRfl
/- The closed facts on the types of this translation: cells, zero values, places of fields, elements. By program; no conditions. -/
namespace Go.Proofs.YtnioapinljedmaaGreat.Ty
open Go Go.Proofs Go.Abs
theorem mixed : Tryz.prog.follows .mixedOrders = true := by kernel_rfl
theorem sz1 : tsz Tryz.prog 1 = some 1 := by kernel_rfl
theorem ag1 : tag Tryz.prog 1 = some none := by kernel_rfl
theorem zc1 : tzc Tryz.prog 1 = some [.nilFunc] := by kernel_rfl
theorem sr1 : tsrc Tryz.prog 1 = true := by kernel_rfl
theorem sz2 : tsz Tryz.prog 2 = some 1 := by kernel_rfl
theorem ag2 : tag Tryz.prog 2 = some none := by kernel_rfl
theorem zc2 : tzc Tryz.prog 2 = some [(.int .i64 0)] := by kernel_rfl
theorem sr2 : tsrc Tryz.prog 2 = false := by kernel_rfl
theorem sz3 : tsz Tryz.prog 3 = some 1 := by kernel_rfl
theorem ag3 : tag Tryz.prog 3 = some none := by kernel_rfl
theorem zc3 : tzc Tryz.prog 3 = some [(.int .i64 0)] := by kernel_rfl
theorem sr3 : tsrc Tryz.prog 3 = false := by kernel_rfl
theorem sz4 : tsz Tryz.prog 4 = some 1 := by kernel_rfl
theorem ag4 : tag Tryz.prog 4 = some none := by kernel_rfl
theorem zc4 : tzc Tryz.prog 4 = some [(.bool false)] := by kernel_rfl
theorem sr4 : tsrc Tryz.prog 4 = true := by kernel_rfl
theorem bo4 : tbool Tryz.prog 4 = true := by kernel_rfl
theorem sz5 : tsz Tryz.prog 5 = some 1 := by kernel_rfl
theorem ag5 : tag Tryz.prog 5 = some none := by kernel_rfl
theorem zc5 : tzc Tryz.prog 5 = some [(.int .u8 0)] := by kernel_rfl
theorem sr5 : tsrc Tryz.prog 5 = false := by kernel_rfl
theorem sz6 : tsz Tryz.prog 6 = some 1 := by kernel_rfl
theorem ag6 : tag Tryz.prog 6 = some none := by kernel_rfl
theorem zc6 : tzc Tryz.prog 6 = some [(.int .u8 0)] := by kernel_rfl
theorem sr6 : tsrc Tryz.prog 6 = false := by kernel_rfl
theorem sz7 : tsz Tryz.prog 7 = some 4 := by kernel_rfl
theorem ag7 : tag Tryz.prog 7 = some (some 4) := by kernel_rfl
theorem zc7 : tzc Tryz.prog 7 = some [(.int .i64 0), (.int .i64 0), (.bool false), (.int .u8 0)] := by kernel_rfl
theorem sr7 : tsrc Tryz.prog 7 = true := by kernel_rfl
theorem fd7_0 : tfd Tryz.prog 7 0 = some (0, 2) := by kernel_rfl
theorem fo7_0 : tfo Tryz.prog 7 0 = some 0 := by kernel_rfl
theorem fd7_1 : tfd Tryz.prog 7 1 = some (1, 3) := by kernel_rfl
theorem fo7_1 : tfo Tryz.prog 7 1 = some 1 := by kernel_rfl
theorem fd7_2 : tfd Tryz.prog 7 2 = some (2, 4) := by kernel_rfl
theorem fo7_2 : tfo Tryz.prog 7 2 = some 2 := by kernel_rfl
theorem fd7_3 : tfd Tryz.prog 7 3 = some (3, 6) := by kernel_rfl
theorem fo7_3 : tfo Tryz.prog 7 3 = some 3 := by kernel_rfl
theorem pl7 : tpl Tryz.prog 7 = some [(0, 1), (1, 1), (2, 1), (3, 1)] := by kernel_rfl
theorem bd7 (ps : List (Nat × AV)) (K : AV → Prop) : aBuild Tryz.prog 7 ps K = aBld (tpl Tryz.prog 7) (tzc Tryz.prog 7) ps K := aBuild_eq (by rw [pl7]; rfl) ps K
theorem sz8 : tsz Tryz.prog 8 = some 4 := by kernel_rfl
theorem ag8 : tag Tryz.prog 8 = some (some 4) := by kernel_rfl
theorem zc8 : tzc Tryz.prog 8 = some [(.int .i64 0), (.int .i64 0), (.bool false), (.int .u8 0)] := by kernel_rfl
theorem sr8 : tsrc Tryz.prog 8 = true := by kernel_rfl
theorem fd8_0 : tfd Tryz.prog 8 0 = some (0, 2) := by kernel_rfl
theorem fo8_0 : tfo Tryz.prog 8 0 = some 0 := by kernel_rfl
theorem fd8_1 : tfd Tryz.prog 8 1 = some (1, 3) := by kernel_rfl
theorem fo8_1 : tfo Tryz.prog 8 1 = some 1 := by kernel_rfl
theorem fd8_2 : tfd Tryz.prog 8 2 = some (2, 4) := by kernel_rfl
theorem fo8_2 : tfo Tryz.prog 8 2 = some 2 := by kernel_rfl
theorem fd8_3 : tfd Tryz.prog 8 3 = some (3, 6) := by kernel_rfl
theorem fo8_3 : tfo Tryz.prog 8 3 = some 3 := by kernel_rfl
theorem pl8 : tpl Tryz.prog 8 = some [(0, 1), (1, 1), (2, 1), (3, 1)] := by kernel_rfl
theorem bd8 (ps : List (Nat × AV)) (K : AV → Prop) : aBuild Tryz.prog 8 ps K = aBld (tpl Tryz.prog 8) (tzc Tryz.prog 8) ps K := aBuild_eq (by rw [pl8]; rfl) ps K
theorem sz9 : tsz Tryz.prog 9 = some 1 := by kernel_rfl
theorem ag9 : tag Tryz.prog 9 = some none := by kernel_rfl
theorem zc9 : tzc Tryz.prog 9 = some [(.str ⟨#[]⟩)] := by kernel_rfl
theorem sr9 : tsrc Tryz.prog 9 = true := by kernel_rfl
theorem cu9 : tcut Tryz.prog 9 = some none := by kernel_rfl
theorem ln9 : tlen Tryz.prog 9 = some .str := by kernel_rfl
theorem sz10 : tsz Tryz.prog 10 = some 1 := by kernel_rfl
theorem ag10 : tag Tryz.prog 10 = some none := by kernel_rfl
theorem zc10 : tzc Tryz.prog 10 = some [(.str ⟨#[]⟩)] := by kernel_rfl
theorem sr10 : tsrc Tryz.prog 10 = true := by kernel_rfl
theorem cu10 : tcut Tryz.prog 10 = some none := by kernel_rfl
theorem ln10 : tlen Tryz.prog 10 = some .str := by kernel_rfl
theorem sz11 : tsz Tryz.prog 11 = some 1 := by kernel_rfl
theorem ag11 : tag Tryz.prog 11 = some none := by kernel_rfl
theorem zc11 : tzc Tryz.prog 11 = some [(.str ⟨#[]⟩)] := by kernel_rfl
theorem sr11 : tsrc Tryz.prog 11 = true := by kernel_rfl
theorem cu11 : tcut Tryz.prog 11 = some none := by kernel_rfl
theorem ln11 : tlen Tryz.prog 11 = some .str := by kernel_rfl
theorem sz12 : tsz Tryz.prog 12 = some 1 := by kernel_rfl
theorem ag12 : tag Tryz.prog 12 = some none := by kernel_rfl
theorem zc12 : tzc Tryz.prog 12 = some [(.int .u64 0)] := by kernel_rfl
theorem sr12 : tsrc Tryz.prog 12 = false := by kernel_rfl
theorem sz13 : tsz Tryz.prog 13 = some 2 := by kernel_rfl
theorem ag13 : tag Tryz.prog 13 = some (some 2) := by kernel_rfl
theorem zc13 : tzc Tryz.prog 13 = some [(.str ⟨#[]⟩), (.int .u64 0)] := by kernel_rfl
theorem sr13 : tsrc Tryz.prog 13 = true := by kernel_rfl
theorem fd13_0 : tfd Tryz.prog 13 0 = some (0, 9) := by kernel_rfl
theorem fo13_0 : tfo Tryz.prog 13 0 = some 0 := by kernel_rfl
theorem fd13_1 : tfd Tryz.prog 13 1 = some (1, 12) := by kernel_rfl
theorem fo13_1 : tfo Tryz.prog 13 1 = some 1 := by kernel_rfl
theorem pl13 : tpl Tryz.prog 13 = some [(0, 1), (1, 1)] := by kernel_rfl
theorem bd13 (ps : List (Nat × AV)) (K : AV → Prop) : aBuild Tryz.prog 13 ps K = aBld (tpl Tryz.prog 13) (tzc Tryz.prog 13) ps K := aBuild_eq (by rw [pl13]; rfl) ps K
theorem sz14 : tsz Tryz.prog 14 = some 2 := by kernel_rfl
theorem ag14 : tag Tryz.prog 14 = some (some 2) := by kernel_rfl
theorem zc14 : tzc Tryz.prog 14 = some [(.str ⟨#[]⟩), (.int .u64 0)] := by kernel_rfl
theorem sr14 : tsrc Tryz.prog 14 = true := by kernel_rfl
theorem fd14_0 : tfd Tryz.prog 14 0 = some (0, 9) := by kernel_rfl
theorem fo14_0 : tfo Tryz.prog 14 0 = some 0 := by kernel_rfl
theorem fd14_1 : tfd Tryz.prog 14 1 = some (1, 12) := by kernel_rfl
theorem fo14_1 : tfo Tryz.prog 14 1 = some 1 := by kernel_rfl
theorem pl14 : tpl Tryz.prog 14 = some [(0, 1), (1, 1)] := by kernel_rfl
theorem bd14 (ps : List (Nat × AV)) (K : AV → Prop) : aBuild Tryz.prog 14 ps K = aBld (tpl Tryz.prog 14) (tzc Tryz.prog 14) ps K := aBuild_eq (by rw [pl14]; rfl) ps K
theorem sz15 : tsz Tryz.prog 15 = some 1 := by kernel_rfl
theorem ag15 : tag Tryz.prog 15 = some none := by kernel_rfl
theorem zc15 : tzc Tryz.prog 15 = some [(.ptr none)] := by kernel_rfl
theorem sr15 : tsrc Tryz.prog 15 = true := by kernel_rfl
theorem sz16 : tsz Tryz.prog 16 = some 1 := by kernel_rfl
theorem ag16 : tag Tryz.prog 16 = some none := by kernel_rfl
theorem zc16 : tzc Tryz.prog 16 = some [(.ptr none)] := by kernel_rfl
theorem sr16 : tsrc Tryz.prog 16 = true := by kernel_rfl
theorem sz17 : tsz Tryz.prog 17 = some 1 := by kernel_rfl
theorem ag17 : tag Tryz.prog 17 = some none := by kernel_rfl
theorem zc17 : tzc Tryz.prog 17 = some [(.ptr none)] := by kernel_rfl
theorem sr17 : tsrc Tryz.prog 17 = true := by kernel_rfl
theorem sz18 : tsz Tryz.prog 18 = some 1 := by kernel_rfl
theorem ag18 : tag Tryz.prog 18 = some (some 1) := by kernel_rfl
theorem zc18 : tzc Tryz.prog 18 = some [(.ptr none)] := by kernel_rfl
theorem sr18 : tsrc Tryz.prog 18 = true := by kernel_rfl
theorem fd18_0 : tfd Tryz.prog 18 0 = some (0, 17) := by kernel_rfl
theorem fo18_0 : tfo Tryz.prog 18 0 = some 0 := by kernel_rfl
theorem pl18 : tpl Tryz.prog 18 = some [(0, 1)] := by kernel_rfl
theorem bd18 (ps : List (Nat × AV)) (K : AV → Prop) : aBuild Tryz.prog 18 ps K = aBld (tpl Tryz.prog 18) (tzc Tryz.prog 18) ps K := aBuild_eq (by rw [pl18]; rfl) ps K
theorem sz19 : tsz Tryz.prog 19 = some 1 := by kernel_rfl
theorem ag19 : tag Tryz.prog 19 = some (some 1) := by kernel_rfl
theorem zc19 : tzc Tryz.prog 19 = some [(.ptr none)] := by kernel_rfl
theorem sr19 : tsrc Tryz.prog 19 = true := by kernel_rfl
theorem fd19_0 : tfd Tryz.prog 19 0 = some (0, 17) := by kernel_rfl
theorem fo19_0 : tfo Tryz.prog 19 0 = some 0 := by kernel_rfl
theorem pl19 : tpl Tryz.prog 19 = some [(0, 1)] := by kernel_rfl
theorem bd19 (ps : List (Nat × AV)) (K : AV → Prop) : aBuild Tryz.prog 19 ps K = aBld (tpl Tryz.prog 19) (tzc Tryz.prog 19) ps K := aBuild_eq (by rw [pl19]; rfl) ps K
theorem sz20 : tsz Tryz.prog 20 = some 1 := by kernel_rfl
theorem ag20 : tag Tryz.prog 20 = some none := by kernel_rfl
theorem zc20 : tzc Tryz.prog 20 = some [.nilIface] := by kernel_rfl
theorem sr20 : tsrc Tryz.prog 20 = true := by kernel_rfl
theorem sz21 : tsz Tryz.prog 21 = some 1 := by kernel_rfl
theorem ag21 : tag Tryz.prog 21 = some none := by kernel_rfl
theorem zc21 : tzc Tryz.prog 21 = some [(.int .i32 0)] := by kernel_rfl
theorem sr21 : tsrc Tryz.prog 21 = false := by kernel_rfl
theorem sz22 : tsz Tryz.prog 22 = some 1 := by kernel_rfl
theorem ag22 : tag Tryz.prog 22 = some none := by kernel_rfl
theorem zc22 : tzc Tryz.prog 22 = some [(.sl [] .full)] := by kernel_rfl
theorem sr22 : tsrc Tryz.prog 22 = true := by kernel_rfl
theorem el22 : tel Tryz.prog 22 = some (none, 3) := by kernel_rfl
theorem cu22 : tcut Tryz.prog 22 = some (some 3) := by kernel_rfl
theorem ap22 : tap Tryz.prog 22 = some (3, 40) := by kernel_rfl
theorem bs22 : tbs Tryz.prog 22 = some 3 := by kernel_rfl
theorem ms22 : tms Tryz.prog 22 = some (3, 40, [(.int .i64 0), (.int .i64 0), (.sl [] .full)], 24) := by kernel_rfl
theorem mm22 (l c : AV) (h : AH) (K : AV → AH → Prop) : aMakeSlice Tryz.prog 22 l c h K = aMkT (tms Tryz.prog 22) l c h K := aMakeSlice_eq (by rw [ms22]; rfl) l c K
theorem mc22 (x : AV) (h : AH) (K : AV → AH → Prop) : aClear Tryz.prog 22 x h K = aClT (tms Tryz.prog 22) x h K := aClear_eq (by rw [ms22]; rfl) x K
theorem mb22 (n : Nat) (ps : List (Nat × AV)) (h : AH) (K : AV → AH → Prop) : aBuildSliceM Tryz.prog 22 n ps h K = aBsM (tms Tryz.prog 22) n ps h K := aBuildSliceM_eq (by rw [ms22]; rfl) n ps K
theorem ma22 (s x : AV) (h : AH) (K : AV → AH → Prop) : aAppendM Tryz.prog 22 22 s x h K = aApM (tms Tryz.prog 22) s x h K := aAppendM_eq sr22 (by rw [ms22]; rfl) s x K
theorem ae22_22 (s x : AV) (h : AH) (K : AV → AH → Prop) : aAppend Tryz.prog 22 22 s x h K = aAp (tap Tryz.prog 22) s x h K := aAppend_eq sr22 s x K
theorem ln22 : tlen Tryz.prog 22 = some .sl := by kernel_rfl
theorem sz23 : tsz Tryz.prog 23 = some 3 := by kernel_rfl
theorem ag23 : tag Tryz.prog 23 = some (some 3) := by kernel_rfl
theorem zc23 : tzc Tryz.prog 23 = some [(.int .i64 0), (.int .i64 0), (.sl [] .full)] := by kernel_rfl
theorem sr23 : tsrc Tryz.prog 23 = true := by kernel_rfl
theorem fd23_0 : tfd Tryz.prog 23 0 = some (0, 3) := by kernel_rfl
theorem fo23_0 : tfo Tryz.prog 23 0 = some 0 := by kernel_rfl
theorem fd23_1 : tfd Tryz.prog 23 1 = some (1, 3) := by kernel_rfl
theorem fo23_1 : tfo Tryz.prog 23 1 = some 1 := by kernel_rfl
theorem fd23_2 : tfd Tryz.prog 23 2 = some (2, 22) := by kernel_rfl
theorem fo23_2 : tfo Tryz.prog 23 2 = some 2 := by kernel_rfl
theorem pl23 : tpl Tryz.prog 23 = some [(0, 1), (1, 1), (2, 1)] := by kernel_rfl
theorem bd23 (ps : List (Nat × AV)) (K : AV → Prop) : aBuild Tryz.prog 23 ps K = aBld (tpl Tryz.prog 23) (tzc Tryz.prog 23) ps K := aBuild_eq (by rw [pl23]; rfl) ps K
theorem sz24 : tsz Tryz.prog 24 = some 3 := by kernel_rfl
theorem ag24 : tag Tryz.prog 24 = some (some 3) := by kernel_rfl
theorem zc24 : tzc Tryz.prog 24 = some [(.int .i64 0), (.int .i64 0), (.sl [] .full)] := by kernel_rfl
theorem sr24 : tsrc Tryz.prog 24 = true := by kernel_rfl
theorem fd24_0 : tfd Tryz.prog 24 0 = some (0, 3) := by kernel_rfl
theorem fo24_0 : tfo Tryz.prog 24 0 = some 0 := by kernel_rfl
theorem fd24_1 : tfd Tryz.prog 24 1 = some (1, 3) := by kernel_rfl
theorem fo24_1 : tfo Tryz.prog 24 1 = some 1 := by kernel_rfl
theorem fd24_2 : tfd Tryz.prog 24 2 = some (2, 22) := by kernel_rfl
theorem fo24_2 : tfo Tryz.prog 24 2 = some 2 := by kernel_rfl
theorem pl24 : tpl Tryz.prog 24 = some [(0, 1), (1, 1), (2, 1)] := by kernel_rfl
theorem bd24 (ps : List (Nat × AV)) (K : AV → Prop) : aBuild Tryz.prog 24 ps K = aBld (tpl Tryz.prog 24) (tzc Tryz.prog 24) ps K := aBuild_eq (by rw [pl24]; rfl) ps K
theorem sz25 : tsz Tryz.prog 25 = some 1 := by kernel_rfl
theorem ag25 : tag Tryz.prog 25 = some none := by kernel_rfl
theorem zc25 : tzc Tryz.prog 25 = some [(.sl [] .full)] := by kernel_rfl
theorem sr25 : tsrc Tryz.prog 25 = true := by kernel_rfl
theorem el25 : tel Tryz.prog 25 = some (none, 1) := by kernel_rfl
theorem cu25 : tcut Tryz.prog 25 = some (some 1) := by kernel_rfl
theorem ap25 : tap Tryz.prog 25 = some (1, 8) := by kernel_rfl
theorem bs25 : tbs Tryz.prog 25 = some 1 := by kernel_rfl
theorem ms25 : tms Tryz.prog 25 = some (1, 8, [(.int .i64 0)], 3) := by kernel_rfl
theorem mm25 (l c : AV) (h : AH) (K : AV → AH → Prop) : aMakeSlice Tryz.prog 25 l c h K = aMkT (tms Tryz.prog 25) l c h K := aMakeSlice_eq (by rw [ms25]; rfl) l c K
theorem mc25 (x : AV) (h : AH) (K : AV → AH → Prop) : aClear Tryz.prog 25 x h K = aClT (tms Tryz.prog 25) x h K := aClear_eq (by rw [ms25]; rfl) x K
theorem mb25 (n : Nat) (ps : List (Nat × AV)) (h : AH) (K : AV → AH → Prop) : aBuildSliceM Tryz.prog 25 n ps h K = aBsM (tms Tryz.prog 25) n ps h K := aBuildSliceM_eq (by rw [ms25]; rfl) n ps K
theorem ma25 (s x : AV) (h : AH) (K : AV → AH → Prop) : aAppendM Tryz.prog 25 25 s x h K = aApM (tms Tryz.prog 25) s x h K := aAppendM_eq sr25 (by rw [ms25]; rfl) s x K
theorem ae25_25 (s x : AV) (h : AH) (K : AV → AH → Prop) : aAppend Tryz.prog 25 25 s x h K = aAp (tap Tryz.prog 25) s x h K := aAppend_eq sr25 s x K
theorem ln25 : tlen Tryz.prog 25 = some .sl := by kernel_rfl
theorem sz26 : tsz Tryz.prog 26 = some 1 := by kernel_rfl
theorem ag26 : tag Tryz.prog 26 = some none := by kernel_rfl
theorem zc26 : tzc Tryz.prog 26 = some [.nilFunc] := by kernel_rfl
theorem sr26 : tsrc Tryz.prog 26 = true := by kernel_rfl
theorem sz27 : tsz Tryz.prog 27 = some 1 := by kernel_rfl
theorem ag27 : tag Tryz.prog 27 = some none := by kernel_rfl
theorem zc27 : tzc Tryz.prog 27 = some [.nilFunc] := by kernel_rfl
theorem sr27 : tsrc Tryz.prog 27 = true := by kernel_rfl
theorem sz28 : tsz Tryz.prog 28 = some 1 := by kernel_rfl
theorem ag28 : tag Tryz.prog 28 = some none := by kernel_rfl
theorem zc28 : tzc Tryz.prog 28 = some [(.int .i64 0)] := by kernel_rfl
theorem sr28 : tsrc Tryz.prog 28 = false := by kernel_rfl
theorem sz29 : tsz Tryz.prog 29 = some 1 := by kernel_rfl
theorem ag29 : tag Tryz.prog 29 = some none := by kernel_rfl
theorem zc29 : tzc Tryz.prog 29 = some [.nilFunc] := by kernel_rfl
theorem sr29 : tsrc Tryz.prog 29 = true := by kernel_rfl
theorem sz30 : tsz Tryz.prog 30 = some 1 := by kernel_rfl
theorem ag30 : tag Tryz.prog 30 = some none := by kernel_rfl
theorem zc30 : tzc Tryz.prog 30 = some [(.sl [] .full)] := by kernel_rfl
theorem sr30 : tsrc Tryz.prog 30 = true := by kernel_rfl
theorem el30 : tel Tryz.prog 30 = some (none, 1) := by kernel_rfl
theorem cu30 : tcut Tryz.prog 30 = some (some 1) := by kernel_rfl
theorem ap30 : tap Tryz.prog 30 = some (1, 24) := by kernel_rfl
theorem bs30 : tbs Tryz.prog 30 = some 1 := by kernel_rfl
theorem ms30 : tms Tryz.prog 30 = some (1, 24, [(.sl [] .full)], 25) := by kernel_rfl
theorem mm30 (l c : AV) (h : AH) (K : AV → AH → Prop) : aMakeSlice Tryz.prog 30 l c h K = aMkT (tms Tryz.prog 30) l c h K := aMakeSlice_eq (by rw [ms30]; rfl) l c K
theorem mc30 (x : AV) (h : AH) (K : AV → AH → Prop) : aClear Tryz.prog 30 x h K = aClT (tms Tryz.prog 30) x h K := aClear_eq (by rw [ms30]; rfl) x K
theorem mb30 (n : Nat) (ps : List (Nat × AV)) (h : AH) (K : AV → AH → Prop) : aBuildSliceM Tryz.prog 30 n ps h K = aBsM (tms Tryz.prog 30) n ps h K := aBuildSliceM_eq (by rw [ms30]; rfl) n ps K
theorem ma30 (s x : AV) (h : AH) (K : AV → AH → Prop) : aAppendM Tryz.prog 30 30 s x h K = aApM (tms Tryz.prog 30) s x h K := aAppendM_eq sr30 (by rw [ms30]; rfl) s x K
theorem ae30_30 (s x : AV) (h : AH) (K : AV → AH → Prop) : aAppend Tryz.prog 30 30 s x h K = aAp (tap Tryz.prog 30) s x h K := aAppend_eq sr30 s x K
theorem ln30 : tlen Tryz.prog 30 = some .sl := by kernel_rfl
theorem sz32 : tsz Tryz.prog 32 = some 1 := by kernel_rfl
theorem ag32 : tag Tryz.prog 32 = some none := by kernel_rfl
theorem zc32 : tzc Tryz.prog 32 = some [.nilFunc] := by kernel_rfl
theorem sr32 : tsrc Tryz.prog 32 = true := by kernel_rfl
theorem sz34 : tsz Tryz.prog 34 = some 1 := by kernel_rfl
theorem ag34 : tag Tryz.prog 34 = some none := by kernel_rfl
theorem zc34 : tzc Tryz.prog 34 = some [.nilFunc] := by kernel_rfl
theorem sr34 : tsrc Tryz.prog 34 = true := by kernel_rfl
theorem sz35 : tsz Tryz.prog 35 = some 1 := by kernel_rfl
theorem ag35 : tag Tryz.prog 35 = some none := by kernel_rfl
theorem zc35 : tzc Tryz.prog 35 = some [.nilFunc] := by kernel_rfl
theorem sr35 : tsrc Tryz.prog 35 = true := by kernel_rfl
theorem sz36 : tsz Tryz.prog 36 = some 1 := by kernel_rfl
theorem ag36 : tag Tryz.prog 36 = some none := by kernel_rfl
theorem zc36 : tzc Tryz.prog 36 = some [.nilFunc] := by kernel_rfl
theorem sr36 : tsrc Tryz.prog 36 = true := by kernel_rfl
theorem sz37 : tsz Tryz.prog 37 = some 1 := by kernel_rfl
theorem ag37 : tag Tryz.prog 37 = some none := by kernel_rfl
theorem zc37 : tzc Tryz.prog 37 = some [.nilFunc] := by kernel_rfl
theorem sr37 : tsrc Tryz.prog 37 = true := by kernel_rfl
theorem sz38 : tsz Tryz.prog 38 = some 10 := by kernel_rfl
theorem ag38 : tag Tryz.prog 38 = some (some 10) := by kernel_rfl
theorem zc38 : tzc Tryz.prog 38 = some [(.int .i64 0), (.int .i64 0), (.sl [] .full), (.sl [] .full), (.sl [] .full), (.sl [] .full), (.sl [] .full), (.bool false), (.bool false), (.bool false)] := by kernel_rfl
theorem sr38 : tsrc Tryz.prog 38 = true := by kernel_rfl
theorem fd38_0 : tfd Tryz.prog 38 0 = some (0, 24) := by kernel_rfl
theorem fo38_0 : tfo Tryz.prog 38 0 = some 0 := by kernel_rfl
theorem fd38_1 : tfd Tryz.prog 38 1 = some (3, 25) := by kernel_rfl
theorem fo38_1 : tfo Tryz.prog 38 1 = some 3 := by kernel_rfl
theorem fd38_2 : tfd Tryz.prog 38 2 = some (4, 25) := by kernel_rfl
theorem fo38_2 : tfo Tryz.prog 38 2 = some 4 := by kernel_rfl
theorem fd38_3 : tfd Tryz.prog 38 3 = some (5, 25) := by kernel_rfl
theorem fo38_3 : tfo Tryz.prog 38 3 = some 5 := by kernel_rfl
theorem fd38_4 : tfd Tryz.prog 38 4 = some (6, 25) := by kernel_rfl
theorem fo38_4 : tfo Tryz.prog 38 4 = some 6 := by kernel_rfl
theorem fd38_5 : tfd Tryz.prog 38 5 = some (7, 4) := by kernel_rfl
theorem fo38_5 : tfo Tryz.prog 38 5 = some 7 := by kernel_rfl
theorem fd38_6 : tfd Tryz.prog 38 6 = some (8, 4) := by kernel_rfl
theorem fo38_6 : tfo Tryz.prog 38 6 = some 8 := by kernel_rfl
theorem fd38_7 : tfd Tryz.prog 38 7 = some (9, 4) := by kernel_rfl
theorem fo38_7 : tfo Tryz.prog 38 7 = some 9 := by kernel_rfl
theorem pl38 : tpl Tryz.prog 38 = some [(0, 3), (3, 1), (4, 1), (5, 1), (6, 1), (7, 1), (8, 1), (9, 1)] := by kernel_rfl
theorem bd38 (ps : List (Nat × AV)) (K : AV → Prop) : aBuild Tryz.prog 38 ps K = aBld (tpl Tryz.prog 38) (tzc Tryz.prog 38) ps K := aBuild_eq (by rw [pl38]; rfl) ps K
theorem sz39 : tsz Tryz.prog 39 = some 1 := by kernel_rfl
theorem ag39 : tag Tryz.prog 39 = some none := by kernel_rfl
theorem zc39 : tzc Tryz.prog 39 = some [(.sl [] .full)] := by kernel_rfl
theorem sr39 : tsrc Tryz.prog 39 = true := by kernel_rfl
theorem el39 : tel Tryz.prog 39 = some (none, 10) := by kernel_rfl
theorem cu39 : tcut Tryz.prog 39 = some (some 10) := by kernel_rfl
theorem ap39 : tap Tryz.prog 39 = some (10, 144) := by kernel_rfl
theorem bs39 : tbs Tryz.prog 39 = some 10 := by kernel_rfl
theorem ms39 : tms Tryz.prog 39 = some (10, 144, [(.int .i64 0), (.int .i64 0), (.sl [] .full), (.sl [] .full), (.sl [] .full), (.sl [] .full), (.sl [] .full), (.bool false), (.bool false), (.bool false)], 38) := by kernel_rfl
theorem mm39 (l c : AV) (h : AH) (K : AV → AH → Prop) : aMakeSlice Tryz.prog 39 l c h K = aMkT (tms Tryz.prog 39) l c h K := aMakeSlice_eq (by rw [ms39]; rfl) l c K
theorem mc39 (x : AV) (h : AH) (K : AV → AH → Prop) : aClear Tryz.prog 39 x h K = aClT (tms Tryz.prog 39) x h K := aClear_eq (by rw [ms39]; rfl) x K
theorem mb39 (n : Nat) (ps : List (Nat × AV)) (h : AH) (K : AV → AH → Prop) : aBuildSliceM Tryz.prog 39 n ps h K = aBsM (tms Tryz.prog 39) n ps h K := aBuildSliceM_eq (by rw [ms39]; rfl) n ps K
theorem ma39 (s x : AV) (h : AH) (K : AV → AH → Prop) : aAppendM Tryz.prog 39 39 s x h K = aApM (tms Tryz.prog 39) s x h K := aAppendM_eq sr39 (by rw [ms39]; rfl) s x K
theorem ae39_39 (s x : AV) (h : AH) (K : AV → AH → Prop) : aAppend Tryz.prog 39 39 s x h K = aAp (tap Tryz.prog 39) s x h K := aAppend_eq sr39 s x K
theorem ln39 : tlen Tryz.prog 39 = some .sl := by kernel_rfl
theorem sz40 : tsz Tryz.prog 40 = some 1 := by kernel_rfl
theorem ag40 : tag Tryz.prog 40 = some none := by kernel_rfl
theorem zc40 : tzc Tryz.prog 40 = some [.nilFunc] := by kernel_rfl
theorem sr40 : tsrc Tryz.prog 40 = true := by kernel_rfl
theorem sz41 : tsz Tryz.prog 41 = some 1 := by kernel_rfl
theorem ag41 : tag Tryz.prog 41 = some none := by kernel_rfl
theorem zc41 : tzc Tryz.prog 41 = some [.nilFunc] := by kernel_rfl
theorem sr41 : tsrc Tryz.prog 41 = true := by kernel_rfl
theorem sz42 : tsz Tryz.prog 42 = some 1 := by kernel_rfl
theorem ag42 : tag Tryz.prog 42 = some none := by kernel_rfl
theorem zc42 : tzc Tryz.prog 42 = some [.nilFunc] := by kernel_rfl
theorem sr42 : tsrc Tryz.prog 42 = true := by kernel_rfl
theorem sz43 : tsz Tryz.prog 43 = some 1 := by kernel_rfl
theorem ag43 : tag Tryz.prog 43 = some none := by kernel_rfl
theorem zc43 : tzc Tryz.prog 43 = some [(.int .u64 0)] := by kernel_rfl
theorem sr43 : tsrc Tryz.prog 43 = false := by kernel_rfl
theorem sz44 : tsz Tryz.prog 44 = some 1 := by kernel_rfl
theorem ag44 : tag Tryz.prog 44 = some none := by kernel_rfl
theorem zc44 : tzc Tryz.prog 44 = some [(.int .u64 0)] := by kernel_rfl
theorem sr44 : tsrc Tryz.prog 44 = false := by kernel_rfl
theorem sz45 : tsz Tryz.prog 45 = some 1 := by kernel_rfl
theorem ag45 : tag Tryz.prog 45 = some none := by kernel_rfl
theorem zc45 : tzc Tryz.prog 45 = some [.nilFunc] := by kernel_rfl
theorem sr45 : tsrc Tryz.prog 45 = true := by kernel_rfl
theorem sz46 : tsz Tryz.prog 46 = some 3 := by kernel_rfl
theorem ag46 : tag Tryz.prog 46 = some (some 3) := by kernel_rfl
theorem zc46 : tzc Tryz.prog 46 = some [(.sl [] .full), (.int .u64 0), .nilFunc] := by kernel_rfl
theorem sr46 : tsrc Tryz.prog 46 = true := by kernel_rfl
theorem fd46_0 : tfd Tryz.prog 46 0 = some (0, 25) := by kernel_rfl
theorem fo46_0 : tfo Tryz.prog 46 0 = some 0 := by kernel_rfl
theorem fd46_1 : tfd Tryz.prog 46 1 = some (1, 44) := by kernel_rfl
theorem fo46_1 : tfo Tryz.prog 46 1 = some 1 := by kernel_rfl
theorem fd46_2 : tfd Tryz.prog 46 2 = some (2, 45) := by kernel_rfl
theorem fo46_2 : tfo Tryz.prog 46 2 = some 2 := by kernel_rfl
theorem pl46 : tpl Tryz.prog 46 = some [(0, 1), (1, 1), (2, 1)] := by kernel_rfl
theorem bd46 (ps : List (Nat × AV)) (K : AV → Prop) : aBuild Tryz.prog 46 ps K = aBld (tpl Tryz.prog 46) (tzc Tryz.prog 46) ps K := aBuild_eq (by rw [pl46]; rfl) ps K
theorem sz47 : tsz Tryz.prog 47 = some 3 := by kernel_rfl
theorem ag47 : tag Tryz.prog 47 = some (some 3) := by kernel_rfl
theorem zc47 : tzc Tryz.prog 47 = some [(.sl [] .full), (.int .u64 0), .nilFunc] := by kernel_rfl
theorem sr47 : tsrc Tryz.prog 47 = true := by kernel_rfl
theorem fd47_0 : tfd Tryz.prog 47 0 = some (0, 25) := by kernel_rfl
theorem fo47_0 : tfo Tryz.prog 47 0 = some 0 := by kernel_rfl
theorem fd47_1 : tfd Tryz.prog 47 1 = some (1, 44) := by kernel_rfl
theorem fo47_1 : tfo Tryz.prog 47 1 = some 1 := by kernel_rfl
theorem fd47_2 : tfd Tryz.prog 47 2 = some (2, 45) := by kernel_rfl
theorem fo47_2 : tfo Tryz.prog 47 2 = some 2 := by kernel_rfl
theorem pl47 : tpl Tryz.prog 47 = some [(0, 1), (1, 1), (2, 1)] := by kernel_rfl
theorem bd47 (ps : List (Nat × AV)) (K : AV → Prop) : aBuild Tryz.prog 47 ps K = aBld (tpl Tryz.prog 47) (tzc Tryz.prog 47) ps K := aBuild_eq (by rw [pl47]; rfl) ps K
theorem sz49 : tsz Tryz.prog 49 = some 1 := by kernel_rfl
theorem ag49 : tag Tryz.prog 49 = some none := by kernel_rfl
theorem zc49 : tzc Tryz.prog 49 = some [.nilFunc] := by kernel_rfl
theorem sr49 : tsrc Tryz.prog 49 = true := by kernel_rfl
theorem sz50 : tsz Tryz.prog 50 = some 1 := by kernel_rfl
theorem ag50 : tag Tryz.prog 50 = some none := by kernel_rfl
theorem zc50 : tzc Tryz.prog 50 = some [.nilFunc] := by kernel_rfl
theorem sr50 : tsrc Tryz.prog 50 = true := by kernel_rfl
theorem sz51 : tsz Tryz.prog 51 = some 4 := by kernel_rfl
theorem ag51 : tag Tryz.prog 51 = some (some 4) := by kernel_rfl
theorem zc51 : tzc Tryz.prog 51 = some [(.int .i64 0), (.int .i64 0), (.sl [] .full), (.sl [] .full)] := by kernel_rfl
theorem sr51 : tsrc Tryz.prog 51 = true := by kernel_rfl
theorem fd51_0 : tfd Tryz.prog 51 0 = some (0, 24) := by kernel_rfl
theorem fo51_0 : tfo Tryz.prog 51 0 = some 0 := by kernel_rfl
theorem fd51_1 : tfd Tryz.prog 51 1 = some (3, 25) := by kernel_rfl
theorem fo51_1 : tfo Tryz.prog 51 1 = some 3 := by kernel_rfl
theorem pl51 : tpl Tryz.prog 51 = some [(0, 3), (3, 1)] := by kernel_rfl
theorem bd51 (ps : List (Nat × AV)) (K : AV → Prop) : aBuild Tryz.prog 51 ps K = aBld (tpl Tryz.prog 51) (tzc Tryz.prog 51) ps K := aBuild_eq (by rw [pl51]; rfl) ps K
theorem sz52 : tsz Tryz.prog 52 = some 4 := by kernel_rfl
theorem ag52 : tag Tryz.prog 52 = some (some 4) := by kernel_rfl
theorem zc52 : tzc Tryz.prog 52 = some [(.int .i64 0), (.int .i64 0), (.sl [] .full), (.sl [] .full)] := by kernel_rfl
theorem sr52 : tsrc Tryz.prog 52 = true := by kernel_rfl
theorem fd52_0 : tfd Tryz.prog 52 0 = some (0, 24) := by kernel_rfl
theorem fo52_0 : tfo Tryz.prog 52 0 = some 0 := by kernel_rfl
theorem fd52_1 : tfd Tryz.prog 52 1 = some (3, 25) := by kernel_rfl
theorem fo52_1 : tfo Tryz.prog 52 1 = some 3 := by kernel_rfl
theorem pl52 : tpl Tryz.prog 52 = some [(0, 3), (3, 1)] := by kernel_rfl
theorem bd52 (ps : List (Nat × AV)) (K : AV → Prop) : aBuild Tryz.prog 52 ps K = aBld (tpl Tryz.prog 52) (tzc Tryz.prog 52) ps K := aBuild_eq (by rw [pl52]; rfl) ps K
theorem sz54 : tsz Tryz.prog 54 = some 1 := by kernel_rfl
theorem ag54 : tag Tryz.prog 54 = some none := by kernel_rfl
theorem zc54 : tzc Tryz.prog 54 = some [.nilFunc] := by kernel_rfl
theorem sr54 : tsrc Tryz.prog 54 = true := by kernel_rfl
theorem sz56 : tsz Tryz.prog 56 = some 1 := by kernel_rfl
theorem ag56 : tag Tryz.prog 56 = some none := by kernel_rfl
theorem zc56 : tzc Tryz.prog 56 = some [.nilFunc] := by kernel_rfl
theorem sr56 : tsrc Tryz.prog 56 = true := by kernel_rfl
theorem sz57 : tsz Tryz.prog 57 = some 1 := by kernel_rfl
theorem ag57 : tag Tryz.prog 57 = some none := by kernel_rfl
theorem zc57 : tzc Tryz.prog 57 = some [.nilFunc] := by kernel_rfl
theorem sr57 : tsrc Tryz.prog 57 = true := by kernel_rfl
theorem sz58 : tsz Tryz.prog 58 = some 1 := by kernel_rfl
theorem ag58 : tag Tryz.prog 58 = some none := by kernel_rfl
theorem zc58 : tzc Tryz.prog 58 = some [.nilFunc] := by kernel_rfl
theorem sr58 : tsrc Tryz.prog 58 = true := by kernel_rfl
theorem sz59 : tsz Tryz.prog 59 = some 1 := by kernel_rfl
theorem ag59 : tag Tryz.prog 59 = some none := by kernel_rfl
theorem zc59 : tzc Tryz.prog 59 = some [.nilFunc] := by kernel_rfl
theorem sr59 : tsrc Tryz.prog 59 = true := by kernel_rfl
theorem sz60 : tsz Tryz.prog 60 = some 1 := by kernel_rfl
theorem ag60 : tag Tryz.prog 60 = some none := by kernel_rfl
theorem zc60 : tzc Tryz.prog 60 = some [.nilFunc] := by kernel_rfl
theorem sr60 : tsrc Tryz.prog 60 = true := by kernel_rfl
theorem sz61 : tsz Tryz.prog 61 = some 1 := by kernel_rfl
theorem ag61 : tag Tryz.prog 61 = some none := by kernel_rfl
theorem zc61 : tzc Tryz.prog 61 = some [.nilFunc] := by kernel_rfl
theorem sr61 : tsrc Tryz.prog 61 = true := by kernel_rfl
theorem sz62 : tsz Tryz.prog 62 = some 1 := by kernel_rfl
theorem ag62 : tag Tryz.prog 62 = some none := by kernel_rfl
theorem zc62 : tzc Tryz.prog 62 = some [.nilFunc] := by kernel_rfl
theorem sr62 : tsrc Tryz.prog 62 = true := by kernel_rfl
theorem sz63 : tsz Tryz.prog 63 = some 1 := by kernel_rfl
theorem ag63 : tag Tryz.prog 63 = some none := by kernel_rfl
theorem zc63 : tzc Tryz.prog 63 = some [.nilFunc] := by kernel_rfl
theorem sr63 : tsrc Tryz.prog 63 = true := by kernel_rfl
theorem sz64 : tsz Tryz.prog 64 = some 1 := by kernel_rfl
theorem ag64 : tag Tryz.prog 64 = some none := by kernel_rfl
theorem zc64 : tzc Tryz.prog 64 = some [.nilFunc] := by kernel_rfl
theorem sr64 : tsrc Tryz.prog 64 = true := by kernel_rfl
theorem sz65 : tsz Tryz.prog 65 = some 1 := by kernel_rfl
theorem ag65 : tag Tryz.prog 65 = some none := by kernel_rfl
theorem zc65 : tzc Tryz.prog 65 = some [.nilFunc] := by kernel_rfl
theorem sr65 : tsrc Tryz.prog 65 = true := by kernel_rfl
theorem sz66 : tsz Tryz.prog 66 = some 1 := by kernel_rfl
theorem ag66 : tag Tryz.prog 66 = some none := by kernel_rfl
theorem zc66 : tzc Tryz.prog 66 = some [(.sl [] .full)] := by kernel_rfl
theorem sr66 : tsrc Tryz.prog 66 = true := by kernel_rfl
theorem el66 : tel Tryz.prog 66 = some (none, 1) := by kernel_rfl
theorem cu66 : tcut Tryz.prog 66 = some (some 1) := by kernel_rfl
theorem ap66 : tap Tryz.prog 66 = some (1, 1) := by kernel_rfl
theorem bs66 : tbs Tryz.prog 66 = some 1 := by kernel_rfl
theorem ms66 : tms Tryz.prog 66 = some (1, 1, [(.bool false)], 4) := by kernel_rfl
theorem mm66 (l c : AV) (h : AH) (K : AV → AH → Prop) : aMakeSlice Tryz.prog 66 l c h K = aMkT (tms Tryz.prog 66) l c h K := aMakeSlice_eq (by rw [ms66]; rfl) l c K
theorem mc66 (x : AV) (h : AH) (K : AV → AH → Prop) : aClear Tryz.prog 66 x h K = aClT (tms Tryz.prog 66) x h K := aClear_eq (by rw [ms66]; rfl) x K
theorem mb66 (n : Nat) (ps : List (Nat × AV)) (h : AH) (K : AV → AH → Prop) : aBuildSliceM Tryz.prog 66 n ps h K = aBsM (tms Tryz.prog 66) n ps h K := aBuildSliceM_eq (by rw [ms66]; rfl) n ps K
theorem ma66 (s x : AV) (h : AH) (K : AV → AH → Prop) : aAppendM Tryz.prog 66 66 s x h K = aApM (tms Tryz.prog 66) s x h K := aAppendM_eq sr66 (by rw [ms66]; rfl) s x K
theorem ae66_66 (s x : AV) (h : AH) (K : AV → AH → Prop) : aAppend Tryz.prog 66 66 s x h K = aAp (tap Tryz.prog 66) s x h K := aAppend_eq sr66 s x K
theorem ln66 : tlen Tryz.prog 66 = some .sl := by kernel_rfl
theorem sz67 : tsz Tryz.prog 67 = some 1 := by kernel_rfl
theorem ag67 : tag Tryz.prog 67 = some none := by kernel_rfl
theorem zc67 : tzc Tryz.prog 67 = some [.nilFunc] := by kernel_rfl
theorem sr67 : tsrc Tryz.prog 67 = true := by kernel_rfl
theorem sz68 : tsz Tryz.prog 68 = some 1 := by kernel_rfl
theorem ag68 : tag Tryz.prog 68 = some none := by kernel_rfl
theorem zc68 : tzc Tryz.prog 68 = some [.nilFunc] := by kernel_rfl
theorem sr68 : tsrc Tryz.prog 68 = true := by kernel_rfl
theorem sz69 : tsz Tryz.prog 69 = some 1 := by kernel_rfl
theorem ag69 : tag Tryz.prog 69 = some none := by kernel_rfl
theorem zc69 : tzc Tryz.prog 69 = some [.nilFunc] := by kernel_rfl
theorem sr69 : tsrc Tryz.prog 69 = true := by kernel_rfl
theorem sz70 : tsz Tryz.prog 70 = some 1 := by kernel_rfl
theorem ag70 : tag Tryz.prog 70 = some none := by kernel_rfl
theorem zc70 : tzc Tryz.prog 70 = some [.nilFunc] := by kernel_rfl
theorem sr70 : tsrc Tryz.prog 70 = true := by kernel_rfl
theorem sz71 : tsz Tryz.prog 71 = some 1 := by kernel_rfl
theorem ag71 : tag Tryz.prog 71 = some none := by kernel_rfl
theorem zc71 : tzc Tryz.prog 71 = some [.nilFunc] := by kernel_rfl
theorem sr71 : tsrc Tryz.prog 71 = true := by kernel_rfl
theorem sz72 : tsz Tryz.prog 72 = some 1 := by kernel_rfl
theorem ag72 : tag Tryz.prog 72 = some none := by kernel_rfl
theorem zc72 : tzc Tryz.prog 72 = some [.nilFunc] := by kernel_rfl
theorem sr72 : tsrc Tryz.prog 72 = true := by kernel_rfl
theorem sz73 : tsz Tryz.prog 73 = some 1 := by kernel_rfl
theorem ag73 : tag Tryz.prog 73 = some none := by kernel_rfl
theorem zc73 : tzc Tryz.prog 73 = some [(.map none)] := by kernel_rfl
theorem sr73 : tsrc Tryz.prog 73 = true := by kernel_rfl
theorem ln73 : tlen Tryz.prog 73 = some .map := by kernel_rfl
theorem mk73 : tmk Tryz.prog 73 = some (true, (.bool false)) := by kernel_rfl
theorem sz74 : tsz Tryz.prog 74 = some 1 := by kernel_rfl
theorem ag74 : tag Tryz.prog 74 = some none := by kernel_rfl
theorem zc74 : tzc Tryz.prog 74 = some [.nilFunc] := by kernel_rfl
theorem sr74 : tsrc Tryz.prog 74 = true := by kernel_rfl
theorem sz75 : tsz Tryz.prog 75 = some 1 := by kernel_rfl
theorem ag75 : tag Tryz.prog 75 = some none := by kernel_rfl
theorem zc75 : tzc Tryz.prog 75 = some [.nilFunc] := by kernel_rfl
theorem sr75 : tsrc Tryz.prog 75 = true := by kernel_rfl
theorem sz76 : tsz Tryz.prog 76 = some 1 := by kernel_rfl
theorem ag76 : tag Tryz.prog 76 = some none := by kernel_rfl
theorem zc76 : tzc Tryz.prog 76 = some [.nilFunc] := by kernel_rfl
theorem sr76 : tsrc Tryz.prog 76 = true := by kernel_rfl
theorem sz77 : tsz Tryz.prog 77 = some 1 := by kernel_rfl
theorem ag77 : tag Tryz.prog 77 = some none := by kernel_rfl
theorem zc77 : tzc Tryz.prog 77 = some [.nilFunc] := by kernel_rfl
theorem sr77 : tsrc Tryz.prog 77 = true := by kernel_rfl
theorem sz79 : tsz Tryz.prog 79 = some 1 := by kernel_rfl
theorem ag79 : tag Tryz.prog 79 = some none := by kernel_rfl
theorem zc79 : tzc Tryz.prog 79 = some [.nilFunc] := by kernel_rfl
theorem sr79 : tsrc Tryz.prog 79 = true := by kernel_rfl
theorem sz80 : tsz Tryz.prog 80 = some 1 := by kernel_rfl
theorem ag80 : tag Tryz.prog 80 = some none := by kernel_rfl
theorem zc80 : tzc Tryz.prog 80 = some [.nilFunc] := by kernel_rfl
theorem sr80 : tsrc Tryz.prog 80 = true := by kernel_rfl
theorem sz81 : tsz Tryz.prog 81 = some 1 := by kernel_rfl
theorem ag81 : tag Tryz.prog 81 = some none := by kernel_rfl
theorem zc81 : tzc Tryz.prog 81 = some [.nilFunc] := by kernel_rfl
theorem sr81 : tsrc Tryz.prog 81 = true := by kernel_rfl
theorem sz82 : tsz Tryz.prog 82 = some 1 := by kernel_rfl
theorem ag82 : tag Tryz.prog 82 = some none := by kernel_rfl
theorem zc82 : tzc Tryz.prog 82 = some [.nilFunc] := by kernel_rfl
theorem sr82 : tsrc Tryz.prog 82 = true := by kernel_rfl
theorem sz83 : tsz Tryz.prog 83 = some 1 := by kernel_rfl
theorem ag83 : tag Tryz.prog 83 = some none := by kernel_rfl
theorem zc83 : tzc Tryz.prog 83 = some [.nilFunc] := by kernel_rfl
theorem sr83 : tsrc Tryz.prog 83 = true := by kernel_rfl
theorem sz84 : tsz Tryz.prog 84 = some 1 := by kernel_rfl
theorem ag84 : tag Tryz.prog 84 = some none := by kernel_rfl
theorem zc84 : tzc Tryz.prog 84 = some [.nilFunc] := by kernel_rfl
theorem sr84 : tsrc Tryz.prog 84 = true := by kernel_rfl
theorem sz85 : tsz Tryz.prog 85 = some 1 := by kernel_rfl
theorem ag85 : tag Tryz.prog 85 = some none := by kernel_rfl
theorem zc85 : tzc Tryz.prog 85 = some [.nilFunc] := by kernel_rfl
theorem sr85 : tsrc Tryz.prog 85 = true := by kernel_rfl
theorem sz86 : tsz Tryz.prog 86 = some 1 := by kernel_rfl
theorem ag86 : tag Tryz.prog 86 = some none := by kernel_rfl
theorem zc86 : tzc Tryz.prog 86 = some [.nilFunc] := by kernel_rfl
theorem sr86 : tsrc Tryz.prog 86 = true := by kernel_rfl
theorem sz87 : tsz Tryz.prog 87 = some 1 := by kernel_rfl
theorem ag87 : tag Tryz.prog 87 = some none := by kernel_rfl
theorem zc87 : tzc Tryz.prog 87 = some [(.int .u32 0)] := by kernel_rfl
theorem sr87 : tsrc Tryz.prog 87 = false := by kernel_rfl
theorem sz88 : tsz Tryz.prog 88 = some 1 := by kernel_rfl
theorem ag88 : tag Tryz.prog 88 = some none := by kernel_rfl
theorem zc88 : tzc Tryz.prog 88 = some [.nilFunc] := by kernel_rfl
theorem sr88 : tsrc Tryz.prog 88 = true := by kernel_rfl
theorem sz89 : tsz Tryz.prog 89 = some 1 := by kernel_rfl
theorem ag89 : tag Tryz.prog 89 = some none := by kernel_rfl
theorem zc89 : tzc Tryz.prog 89 = some [(.int .u64 0)] := by kernel_rfl
theorem sr89 : tsrc Tryz.prog 89 = false := by kernel_rfl
theorem sz90 : tsz Tryz.prog 90 = some 1 := by kernel_rfl
theorem ag90 : tag Tryz.prog 90 = some none := by kernel_rfl
theorem zc90 : tzc Tryz.prog 90 = some [(.map none)] := by kernel_rfl
theorem sr90 : tsrc Tryz.prog 90 = true := by kernel_rfl
theorem ln90 : tlen Tryz.prog 90 = some .map := by kernel_rfl
theorem mk90 : tmk Tryz.prog 90 = some (true, (.int .i64 0)) := by kernel_rfl
theorem sz91 : tsz Tryz.prog 91 = some 1 := by kernel_rfl
theorem ag91 : tag Tryz.prog 91 = some none := by kernel_rfl
theorem zc91 : tzc Tryz.prog 91 = some [.nilFunc] := by kernel_rfl
theorem sr91 : tsrc Tryz.prog 91 = true := by kernel_rfl
theorem sz92 : tsz Tryz.prog 92 = some 1 := by kernel_rfl
theorem ag92 : tag Tryz.prog 92 = some none := by kernel_rfl
theorem zc92 : tzc Tryz.prog 92 = some [.nilFunc] := by kernel_rfl
theorem sr92 : tsrc Tryz.prog 92 = true := by kernel_rfl
theorem sz93 : tsz Tryz.prog 93 = some 1 := by kernel_rfl
theorem ag93 : tag Tryz.prog 93 = some none := by kernel_rfl
theorem zc93 : tzc Tryz.prog 93 = some [.nilFunc] := by kernel_rfl
theorem sr93 : tsrc Tryz.prog 93 = true := by kernel_rfl
theorem sz94 : tsz Tryz.prog 94 = some 1 := by kernel_rfl
theorem ag94 : tag Tryz.prog 94 = some none := by kernel_rfl
theorem zc94 : tzc Tryz.prog 94 = some [.nilFunc] := by kernel_rfl
theorem sr94 : tsrc Tryz.prog 94 = true := by kernel_rfl
theorem sz95 : tsz Tryz.prog 95 = some 1 := by kernel_rfl
theorem ag95 : tag Tryz.prog 95 = some none := by kernel_rfl
theorem zc95 : tzc Tryz.prog 95 = some [(.int .i64 0)] := by kernel_rfl
theorem sr95 : tsrc Tryz.prog 95 = false := by kernel_rfl
theorem sz97 : tsz Tryz.prog 97 = some 1 := by kernel_rfl
theorem ag97 : tag Tryz.prog 97 = some none := by kernel_rfl
theorem zc97 : tzc Tryz.prog 97 = some [.nilFunc] := by kernel_rfl
theorem sr97 : tsrc Tryz.prog 97 = true := by kernel_rfl
theorem sz98 : tsz Tryz.prog 98 = some 1 := by kernel_rfl
theorem ag98 : tag Tryz.prog 98 = some none := by kernel_rfl
theorem zc98 : tzc Tryz.prog 98 = some [.nilFunc] := by kernel_rfl
theorem sr98 : tsrc Tryz.prog 98 = true := by kernel_rfl
theorem sz99 : tsz Tryz.prog 99 = some 1 := by kernel_rfl
theorem ag99 : tag Tryz.prog 99 = some none := by kernel_rfl
theorem zc99 : tzc Tryz.prog 99 = some [.nilFunc] := by kernel_rfl
theorem sr99 : tsrc Tryz.prog 99 = true := by kernel_rfl
theorem sz100 : tsz Tryz.prog 100 = some 1 := by kernel_rfl
theorem ag100 : tag Tryz.prog 100 = some none := by kernel_rfl
theorem zc100 : tzc Tryz.prog 100 = some [.nilFunc] := by kernel_rfl
theorem sr100 : tsrc Tryz.prog 100 = true := by kernel_rfl
theorem sz102 : tsz Tryz.prog 102 = some 1 := by kernel_rfl
theorem ag102 : tag Tryz.prog 102 = some none := by kernel_rfl
theorem zc102 : tzc Tryz.prog 102 = some [.nilFunc] := by kernel_rfl
theorem sr102 : tsrc Tryz.prog 102 = true := by kernel_rfl
theorem sz103 : tsz Tryz.prog 103 = some 1 := by kernel_rfl
theorem ag103 : tag Tryz.prog 103 = some none := by kernel_rfl
theorem zc103 : tzc Tryz.prog 103 = some [.nilFunc] := by kernel_rfl
theorem sr103 : tsrc Tryz.prog 103 = true := by kernel_rfl
theorem sz104 : tsz Tryz.prog 104 = some 1 := by kernel_rfl
theorem ag104 : tag Tryz.prog 104 = some none := by kernel_rfl
theorem zc104 : tzc Tryz.prog 104 = some [.nilFunc] := by kernel_rfl
theorem sr104 : tsrc Tryz.prog 104 = true := by kernel_rfl
theorem sz105 : tsz Tryz.prog 105 = some 1 := by kernel_rfl
theorem ag105 : tag Tryz.prog 105 = some none := by kernel_rfl
theorem zc105 : tzc Tryz.prog 105 = some [.nilFunc] := by kernel_rfl
theorem sr105 : tsrc Tryz.prog 105 = true := by kernel_rfl
theorem sz106 : tsz Tryz.prog 106 = some 1 := by kernel_rfl
theorem ag106 : tag Tryz.prog 106 = some none := by kernel_rfl
theorem zc106 : tzc Tryz.prog 106 = some [.nilFunc] := by kernel_rfl
theorem sr106 : tsrc Tryz.prog 106 = true := by kernel_rfl
theorem sz107 : tsz Tryz.prog 107 = some 1 := by kernel_rfl
theorem ag107 : tag Tryz.prog 107 = some none := by kernel_rfl
theorem zc107 : tzc Tryz.prog 107 = some [.nilFunc] := by kernel_rfl
theorem sr107 : tsrc Tryz.prog 107 = true := by kernel_rfl
theorem sz108 : tsz Tryz.prog 108 = some 1 := by kernel_rfl
theorem ag108 : tag Tryz.prog 108 = some none := by kernel_rfl
theorem zc108 : tzc Tryz.prog 108 = some [.nilFunc] := by kernel_rfl
theorem sr108 : tsrc Tryz.prog 108 = true := by kernel_rfl
theorem sz109 : tsz Tryz.prog 109 = some 1 := by kernel_rfl
theorem ag109 : tag Tryz.prog 109 = some none := by kernel_rfl
theorem zc109 : tzc Tryz.prog 109 = some [.nilFunc] := by kernel_rfl
theorem sr109 : tsrc Tryz.prog 109 = true := by kernel_rfl
theorem sz110 : tsz Tryz.prog 110 = some 1 := by kernel_rfl
theorem ag110 : tag Tryz.prog 110 = some none := by kernel_rfl
theorem zc110 : tzc Tryz.prog 110 = some [.nilFunc] := by kernel_rfl
theorem sr110 : tsrc Tryz.prog 110 = true := by kernel_rfl
theorem sz111 : tsz Tryz.prog 111 = some 1 := by kernel_rfl
theorem ag111 : tag Tryz.prog 111 = some none := by kernel_rfl
theorem zc111 : tzc Tryz.prog 111 = some [.nilFunc] := by kernel_rfl
theorem sr111 : tsrc Tryz.prog 111 = true := by kernel_rfl
theorem sz112 : tsz Tryz.prog 112 = some 1 := by kernel_rfl
theorem ag112 : tag Tryz.prog 112 = some none := by kernel_rfl
theorem zc112 : tzc Tryz.prog 112 = some [.nilFunc] := by kernel_rfl
theorem sr112 : tsrc Tryz.prog 112 = true := by kernel_rfl
theorem sz113 : tsz Tryz.prog 113 = some 1 := by kernel_rfl
theorem ag113 : tag Tryz.prog 113 = some none := by kernel_rfl
theorem zc113 : tzc Tryz.prog 113 = some [(.int .u64 0)] := by kernel_rfl
theorem sr113 : tsrc Tryz.prog 113 = false := by kernel_rfl
theorem sz114 : tsz Tryz.prog 114 = some 1 := by kernel_rfl
theorem ag114 : tag Tryz.prog 114 = some none := by kernel_rfl
theorem zc114 : tzc Tryz.prog 114 = some [.nilFunc] := by kernel_rfl
theorem sr114 : tsrc Tryz.prog 114 = true := by kernel_rfl
theorem sz115 : tsz Tryz.prog 115 = some 1 := by kernel_rfl
theorem ag115 : tag Tryz.prog 115 = some none := by kernel_rfl
theorem zc115 : tzc Tryz.prog 115 = some [.nilFunc] := by kernel_rfl
theorem sr115 : tsrc Tryz.prog 115 = true := by kernel_rfl
theorem sz116 : tsz Tryz.prog 116 = some 1 := by kernel_rfl
theorem ag116 : tag Tryz.prog 116 = some none := by kernel_rfl
theorem zc116 : tzc Tryz.prog 116 = some [.nilFunc] := by kernel_rfl
theorem sr116 : tsrc Tryz.prog 116 = true := by kernel_rfl
theorem sz117 : tsz Tryz.prog 117 = some 1 := by kernel_rfl
theorem ag117 : tag Tryz.prog 117 = some none := by kernel_rfl
theorem zc117 : tzc Tryz.prog 117 = some [(.ptr none)] := by kernel_rfl
theorem sr117 : tsrc Tryz.prog 117 = true := by kernel_rfl
theorem sz118 : tsz Tryz.prog 118 = some 1 := by kernel_rfl
theorem ag118 : tag Tryz.prog 118 = some none := by kernel_rfl
theorem zc118 : tzc Tryz.prog 118 = some [.nilFunc] := by kernel_rfl
theorem sr118 : tsrc Tryz.prog 118 = true := by kernel_rfl
theorem sz119 : tsz Tryz.prog 119 = some 1 := by kernel_rfl
theorem ag119 : tag Tryz.prog 119 = some none := by kernel_rfl
theorem zc119 : tzc Tryz.prog 119 = some [.nilFunc] := by kernel_rfl
theorem sr119 : tsrc Tryz.prog 119 = true := by kernel_rfl
theorem sz120 : tsz Tryz.prog 120 = some 1 := by kernel_rfl
theorem ag120 : tag Tryz.prog 120 = some none := by kernel_rfl
theorem zc120 : tzc Tryz.prog 120 = some [.nilFunc] := by kernel_rfl
theorem sr120 : tsrc Tryz.prog 120 = true := by kernel_rfl
theorem sz121 : tsz Tryz.prog 121 = some 1 := by kernel_rfl
theorem ag121 : tag Tryz.prog 121 = some none := by kernel_rfl
theorem zc121 : tzc Tryz.prog 121 = some [(.ptr none)] := by kernel_rfl
theorem sr121 : tsrc Tryz.prog 121 = true := by kernel_rfl
theorem sz123 : tsz Tryz.prog 123 = some 1 := by kernel_rfl
theorem ag123 : tag Tryz.prog 123 = some none := by kernel_rfl
theorem zc123 : tzc Tryz.prog 123 = some [.nilFunc] := by kernel_rfl
theorem sr123 : tsrc Tryz.prog 123 = true := by kernel_rfl
theorem sz124 : tsz Tryz.prog 124 = some 1 := by kernel_rfl
theorem ag124 : tag Tryz.prog 124 = some none := by kernel_rfl
theorem zc124 : tzc Tryz.prog 124 = some [.nilFunc] := by kernel_rfl
theorem sr124 : tsrc Tryz.prog 124 = true := by kernel_rfl
theorem sz125 : tsz Tryz.prog 125 = some 1 := by kernel_rfl
theorem ag125 : tag Tryz.prog 125 = some none := by kernel_rfl
theorem zc125 : tzc Tryz.prog 125 = some [.nilFunc] := by kernel_rfl
theorem sr125 : tsrc Tryz.prog 125 = true := by kernel_rfl
theorem sz126 : tsz Tryz.prog 126 = some 4 := by kernel_rfl
theorem ag126 : tag Tryz.prog 126 = some (some 4) := by kernel_rfl
theorem zc126 : tzc Tryz.prog 126 = some [(.ptr none), (.ptr none), (.ptr none), (.str ⟨#[]⟩)] := by kernel_rfl
theorem sr126 : tsrc Tryz.prog 126 = true := by kernel_rfl
theorem fd126_0 : tfd Tryz.prog 126 0 = some (0, 17) := by kernel_rfl
theorem fo126_0 : tfo Tryz.prog 126 0 = some 0 := by kernel_rfl
theorem fd126_1 : tfd Tryz.prog 126 1 = some (1, 17) := by kernel_rfl
theorem fo126_1 : tfo Tryz.prog 126 1 = some 1 := by kernel_rfl
theorem fd126_2 : tfd Tryz.prog 126 2 = some (2, 17) := by kernel_rfl
theorem fo126_2 : tfo Tryz.prog 126 2 = some 2 := by kernel_rfl
theorem fd126_3 : tfd Tryz.prog 126 3 = some (3, 9) := by kernel_rfl
theorem fo126_3 : tfo Tryz.prog 126 3 = some 3 := by kernel_rfl
theorem pl126 : tpl Tryz.prog 126 = some [(0, 1), (1, 1), (2, 1), (3, 1)] := by kernel_rfl
theorem bd126 (ps : List (Nat × AV)) (K : AV → Prop) : aBuild Tryz.prog 126 ps K = aBld (tpl Tryz.prog 126) (tzc Tryz.prog 126) ps K := aBuild_eq (by rw [pl126]; rfl) ps K
theorem sz127 : tsz Tryz.prog 127 = some 4 := by kernel_rfl
theorem ag127 : tag Tryz.prog 127 = some (some 4) := by kernel_rfl
theorem zc127 : tzc Tryz.prog 127 = some [(.ptr none), (.ptr none), (.ptr none), (.str ⟨#[]⟩)] := by kernel_rfl
theorem sr127 : tsrc Tryz.prog 127 = true := by kernel_rfl
theorem fd127_0 : tfd Tryz.prog 127 0 = some (0, 17) := by kernel_rfl
theorem fo127_0 : tfo Tryz.prog 127 0 = some 0 := by kernel_rfl
theorem fd127_1 : tfd Tryz.prog 127 1 = some (1, 17) := by kernel_rfl
theorem fo127_1 : tfo Tryz.prog 127 1 = some 1 := by kernel_rfl
theorem fd127_2 : tfd Tryz.prog 127 2 = some (2, 17) := by kernel_rfl
theorem fo127_2 : tfo Tryz.prog 127 2 = some 2 := by kernel_rfl
theorem fd127_3 : tfd Tryz.prog 127 3 = some (3, 9) := by kernel_rfl
theorem fo127_3 : tfo Tryz.prog 127 3 = some 3 := by kernel_rfl
theorem pl127 : tpl Tryz.prog 127 = some [(0, 1), (1, 1), (2, 1), (3, 1)] := by kernel_rfl
theorem bd127 (ps : List (Nat × AV)) (K : AV → Prop) : aBuild Tryz.prog 127 ps K = aBld (tpl Tryz.prog 127) (tzc Tryz.prog 127) ps K := aBuild_eq (by rw [pl127]; rfl) ps K
theorem sz128 : tsz Tryz.prog 128 = some 0 := by kernel_rfl
theorem ag128 : tag Tryz.prog 128 = some (some 0) := by kernel_rfl
theorem zc128 : tzc Tryz.prog 128 = some [] := by kernel_rfl
theorem sr128 : tsrc Tryz.prog 128 = true := by kernel_rfl
theorem el128 : tel Tryz.prog 128 = some (some 0, 1) := by kernel_rfl
theorem ln128 : tlen Tryz.prog 128 = some (.arr 0) := by kernel_rfl
theorem sz129 : tsz Tryz.prog 129 = some 0 := by kernel_rfl
theorem ag129 : tag Tryz.prog 129 = some (some 0) := by kernel_rfl
theorem zc129 : tzc Tryz.prog 129 = some [] := by kernel_rfl
theorem sr129 : tsrc Tryz.prog 129 = true := by kernel_rfl
theorem fd129_0 : tfd Tryz.prog 129 0 = some (0, 128) := by kernel_rfl
theorem pl129 : tpl Tryz.prog 129 = some [(0, 0)] := by kernel_rfl
theorem bd129 (ps : List (Nat × AV)) (K : AV → Prop) : aBuild Tryz.prog 129 ps K = aBld (tpl Tryz.prog 129) (tzc Tryz.prog 129) ps K := aBuild_eq (by rw [pl129]; rfl) ps K
theorem sz130 : tsz Tryz.prog 130 = some 0 := by kernel_rfl
theorem ag130 : tag Tryz.prog 130 = some (some 0) := by kernel_rfl
theorem zc130 : tzc Tryz.prog 130 = some [] := by kernel_rfl
theorem sr130 : tsrc Tryz.prog 130 = true := by kernel_rfl
theorem fd130_0 : tfd Tryz.prog 130 0 = some (0, 128) := by kernel_rfl
theorem pl130 : tpl Tryz.prog 130 = some [(0, 0)] := by kernel_rfl
theorem bd130 (ps : List (Nat × AV)) (K : AV → Prop) : aBuild Tryz.prog 130 ps K = aBld (tpl Tryz.prog 130) (tzc Tryz.prog 130) ps K := aBuild_eq (by rw [pl130]; rfl) ps K
theorem sz131 : tsz Tryz.prog 131 = some 1 := by kernel_rfl
theorem ag131 : tag Tryz.prog 131 = some none := by kernel_rfl
theorem zc131 : tzc Tryz.prog 131 = some [.nilFunc] := by kernel_rfl
theorem sr131 : tsrc Tryz.prog 131 = true := by kernel_rfl
theorem sz132 : tsz Tryz.prog 132 = some 1 := by kernel_rfl
theorem ag132 : tag Tryz.prog 132 = some none := by kernel_rfl
theorem zc132 : tzc Tryz.prog 132 = some [(.int .u8 0)] := by kernel_rfl
theorem sr132 : tsrc Tryz.prog 132 = false := by kernel_rfl
theorem sz133 : tsz Tryz.prog 133 = some 1 := by kernel_rfl
theorem ag133 : tag Tryz.prog 133 = some none := by kernel_rfl
theorem zc133 : tzc Tryz.prog 133 = some [(.int .u8 0)] := by kernel_rfl
theorem sr133 : tsrc Tryz.prog 133 = false := by kernel_rfl
theorem sz134 : tsz Tryz.prog 134 = some 1 := by kernel_rfl
theorem ag134 : tag Tryz.prog 134 = some none := by kernel_rfl
theorem zc134 : tzc Tryz.prog 134 = some [.nilFunc] := by kernel_rfl
theorem sr134 : tsrc Tryz.prog 134 = true := by kernel_rfl
theorem sz135 : tsz Tryz.prog 135 = some 1 := by kernel_rfl
theorem ag135 : tag Tryz.prog 135 = some none := by kernel_rfl
theorem zc135 : tzc Tryz.prog 135 = some [(.ptr none)] := by kernel_rfl
theorem sr135 : tsrc Tryz.prog 135 = true := by kernel_rfl
theorem sz136 : tsz Tryz.prog 136 = some 1 := by kernel_rfl
theorem ag136 : tag Tryz.prog 136 = some none := by kernel_rfl
theorem zc136 : tzc Tryz.prog 136 = some [(.int .i32 0)] := by kernel_rfl
theorem sr136 : tsrc Tryz.prog 136 = false := by kernel_rfl
theorem sz137 : tsz Tryz.prog 137 = some 1 := by kernel_rfl
theorem ag137 : tag Tryz.prog 137 = some none := by kernel_rfl
theorem zc137 : tzc Tryz.prog 137 = some [(.int .i32 0)] := by kernel_rfl
theorem sr137 : tsrc Tryz.prog 137 = false := by kernel_rfl
theorem sz138 : tsz Tryz.prog 138 = some 11 := by kernel_rfl
theorem ag138 : tag Tryz.prog 138 = some (some 11) := by kernel_rfl
theorem zc138 : tzc Tryz.prog 138 = some [(.int .u64 0), (.int .u64 0), (.int .u32 0), (.int .u8 0), (.int .u8 0), (.int .u8 0), (.int .u8 0), .nilFunc, (.ptr none), (.int .i32 0), (.int .i32 0)] := by kernel_rfl
theorem sr138 : tsrc Tryz.prog 138 = true := by kernel_rfl
theorem fd138_0 : tfd Tryz.prog 138 0 = some (0, 12) := by kernel_rfl
theorem fo138_0 : tfo Tryz.prog 138 0 = some 0 := by kernel_rfl
theorem fd138_1 : tfd Tryz.prog 138 1 = some (1, 12) := by kernel_rfl
theorem fo138_1 : tfo Tryz.prog 138 1 = some 1 := by kernel_rfl
theorem fd138_2 : tfd Tryz.prog 138 2 = some (2, 87) := by kernel_rfl
theorem fo138_2 : tfo Tryz.prog 138 2 = some 2 := by kernel_rfl
theorem fd138_3 : tfd Tryz.prog 138 3 = some (3, 132) := by kernel_rfl
theorem fo138_3 : tfo Tryz.prog 138 3 = some 3 := by kernel_rfl
theorem fd138_4 : tfd Tryz.prog 138 4 = some (4, 5) := by kernel_rfl
theorem fo138_4 : tfo Tryz.prog 138 4 = some 4 := by kernel_rfl
theorem fd138_5 : tfd Tryz.prog 138 5 = some (5, 5) := by kernel_rfl
theorem fo138_5 : tfo Tryz.prog 138 5 = some 5 := by kernel_rfl
theorem fd138_6 : tfd Tryz.prog 138 6 = some (6, 133) := by kernel_rfl
theorem fo138_6 : tfo Tryz.prog 138 6 = some 6 := by kernel_rfl
theorem fd138_7 : tfd Tryz.prog 138 7 = some (7, 134) := by kernel_rfl
theorem fo138_7 : tfo Tryz.prog 138 7 = some 7 := by kernel_rfl
theorem fd138_8 : tfd Tryz.prog 138 8 = some (8, 135) := by kernel_rfl
theorem fo138_8 : tfo Tryz.prog 138 8 = some 8 := by kernel_rfl
theorem fd138_9 : tfd Tryz.prog 138 9 = some (9, 136) := by kernel_rfl
theorem fo138_9 : tfo Tryz.prog 138 9 = some 9 := by kernel_rfl
theorem fd138_10 : tfd Tryz.prog 138 10 = some (10, 137) := by kernel_rfl
theorem fo138_10 : tfo Tryz.prog 138 10 = some 10 := by kernel_rfl
theorem pl138 : tpl Tryz.prog 138 = some [(0, 1), (1, 1), (2, 1), (3, 1), (4, 1), (5, 1), (6, 1), (7, 1), (8, 1), (9, 1), (10, 1)] := by kernel_rfl
theorem bd138 (ps : List (Nat × AV)) (K : AV → Prop) : aBuild Tryz.prog 138 ps K = aBld (tpl Tryz.prog 138) (tzc Tryz.prog 138) ps K := aBuild_eq (by rw [pl138]; rfl) ps K
theorem sz139 : tsz Tryz.prog 139 = some 11 := by kernel_rfl
theorem ag139 : tag Tryz.prog 139 = some (some 11) := by kernel_rfl
theorem zc139 : tzc Tryz.prog 139 = some [(.int .u64 0), (.int .u64 0), (.int .u32 0), (.int .u8 0), (.int .u8 0), (.int .u8 0), (.int .u8 0), .nilFunc, (.ptr none), (.int .i32 0), (.int .i32 0)] := by kernel_rfl
theorem sr139 : tsrc Tryz.prog 139 = true := by kernel_rfl
theorem fd139_0 : tfd Tryz.prog 139 0 = some (0, 12) := by kernel_rfl
theorem fo139_0 : tfo Tryz.prog 139 0 = some 0 := by kernel_rfl
theorem fd139_1 : tfd Tryz.prog 139 1 = some (1, 12) := by kernel_rfl
theorem fo139_1 : tfo Tryz.prog 139 1 = some 1 := by kernel_rfl
theorem fd139_2 : tfd Tryz.prog 139 2 = some (2, 87) := by kernel_rfl
theorem fo139_2 : tfo Tryz.prog 139 2 = some 2 := by kernel_rfl
theorem fd139_3 : tfd Tryz.prog 139 3 = some (3, 132) := by kernel_rfl
theorem fo139_3 : tfo Tryz.prog 139 3 = some 3 := by kernel_rfl
theorem fd139_4 : tfd Tryz.prog 139 4 = some (4, 5) := by kernel_rfl
theorem fo139_4 : tfo Tryz.prog 139 4 = some 4 := by kernel_rfl
theorem fd139_5 : tfd Tryz.prog 139 5 = some (5, 5) := by kernel_rfl
theorem fo139_5 : tfo Tryz.prog 139 5 = some 5 := by kernel_rfl
theorem fd139_6 : tfd Tryz.prog 139 6 = some (6, 133) := by kernel_rfl
theorem fo139_6 : tfo Tryz.prog 139 6 = some 6 := by kernel_rfl
theorem fd139_7 : tfd Tryz.prog 139 7 = some (7, 134) := by kernel_rfl
theorem fo139_7 : tfo Tryz.prog 139 7 = some 7 := by kernel_rfl
theorem fd139_8 : tfd Tryz.prog 139 8 = some (8, 135) := by kernel_rfl
theorem fo139_8 : tfo Tryz.prog 139 8 = some 8 := by kernel_rfl
theorem fd139_9 : tfd Tryz.prog 139 9 = some (9, 136) := by kernel_rfl
theorem fo139_9 : tfo Tryz.prog 139 9 = some 9 := by kernel_rfl
theorem fd139_10 : tfd Tryz.prog 139 10 = some (10, 137) := by kernel_rfl
theorem fo139_10 : tfo Tryz.prog 139 10 = some 10 := by kernel_rfl
theorem pl139 : tpl Tryz.prog 139 = some [(0, 1), (1, 1), (2, 1), (3, 1), (4, 1), (5, 1), (6, 1), (7, 1), (8, 1), (9, 1), (10, 1)] := by kernel_rfl
theorem bd139 (ps : List (Nat × AV)) (K : AV → Prop) : aBuild Tryz.prog 139 ps K = aBld (tpl Tryz.prog 139) (tzc Tryz.prog 139) ps K := aBuild_eq (by rw [pl139]; rfl) ps K
theorem sz140 : tsz Tryz.prog 140 = some 1 := by kernel_rfl
theorem ag140 : tag Tryz.prog 140 = some none := by kernel_rfl
theorem zc140 : tzc Tryz.prog 140 = some [(.ptr none)] := by kernel_rfl
theorem sr140 : tsrc Tryz.prog 140 = true := by kernel_rfl
theorem mu73 : tmkey Tryz.prog 73 = some true := by kernel_rfl
theorem mu90 : tmkey Tryz.prog 90 = some true := by kernel_rfl
theorem ar128 : tarr Tryz.prog 128 = some (0, 1) := by kernel_rfl
theorem ba128 (ps : List (Nat × AV)) (K : AV → Prop) : aBuild Tryz.prog 128 ps K = aBldA (tarr Tryz.prog 128) (tzc Tryz.prog 128) ps K := aBuildA_eq (by rw [ar128]; rfl) ps K
theorem cv2_2 : tcv Tryz.prog 2 2 = some (some .i64) := by kernel_rfl
theorem cv2_3 : tcv Tryz.prog 2 3 = some (some .i64) := by kernel_rfl
theorem cv2_5 : tcv Tryz.prog 2 5 = some (some .u8) := by kernel_rfl
theorem cv2_6 : tcv Tryz.prog 2 6 = some (some .u8) := by kernel_rfl
theorem cv2_12 : tcv Tryz.prog 2 12 = some (some .u64) := by kernel_rfl
theorem cv2_21 : tcv Tryz.prog 2 21 = some (some .i32) := by kernel_rfl
theorem cv2_28 : tcv Tryz.prog 2 28 = some (some .i64) := by kernel_rfl
theorem cv2_43 : tcv Tryz.prog 2 43 = some (some .u64) := by kernel_rfl
theorem cv2_44 : tcv Tryz.prog 2 44 = some (some .u64) := by kernel_rfl
theorem cv2_87 : tcv Tryz.prog 2 87 = some (some .u32) := by kernel_rfl
theorem cv2_89 : tcv Tryz.prog 2 89 = some (some .u64) := by kernel_rfl
theorem cv2_95 : tcv Tryz.prog 2 95 = some (some .i64) := by kernel_rfl
theorem cv2_113 : tcv Tryz.prog 2 113 = some (some .u64) := by kernel_rfl
theorem cv2_132 : tcv Tryz.prog 2 132 = some (some .u8) := by kernel_rfl
theorem cv2_133 : tcv Tryz.prog 2 133 = some (some .u8) := by kernel_rfl
theorem cv2_136 : tcv Tryz.prog 2 136 = some (some .i32) := by kernel_rfl
theorem cv2_137 : tcv Tryz.prog 2 137 = some (some .i32) := by kernel_rfl
theorem cv3_2 : tcv Tryz.prog 3 2 = some (some .i64) := by kernel_rfl
theorem cv3_3 : tcv Tryz.prog 3 3 = some (some .i64) := by kernel_rfl
theorem cv3_5 : tcv Tryz.prog 3 5 = some (some .u8) := by kernel_rfl
theorem cv3_6 : tcv Tryz.prog 3 6 = some (some .u8) := by kernel_rfl
theorem cv3_12 : tcv Tryz.prog 3 12 = some (some .u64) := by kernel_rfl
theorem cv3_21 : tcv Tryz.prog 3 21 = some (some .i32) := by kernel_rfl
theorem cv3_28 : tcv Tryz.prog 3 28 = some (some .i64) := by kernel_rfl
theorem cv3_43 : tcv Tryz.prog 3 43 = some (some .u64) := by kernel_rfl
theorem cv3_44 : tcv Tryz.prog 3 44 = some (some .u64) := by kernel_rfl
theorem cv3_87 : tcv Tryz.prog 3 87 = some (some .u32) := by kernel_rfl
theorem cv3_89 : tcv Tryz.prog 3 89 = some (some .u64) := by kernel_rfl
theorem cv3_95 : tcv Tryz.prog 3 95 = some (some .i64) := by kernel_rfl
theorem cv3_113 : tcv Tryz.prog 3 113 = some (some .u64) := by kernel_rfl
theorem cv3_132 : tcv Tryz.prog 3 132 = some (some .u8) := by kernel_rfl
theorem cv3_133 : tcv Tryz.prog 3 133 = some (some .u8) := by kernel_rfl
theorem cv3_136 : tcv Tryz.prog 3 136 = some (some .i32) := by kernel_rfl
theorem cv3_137 : tcv Tryz.prog 3 137 = some (some .i32) := by kernel_rfl
theorem cv5_2 : tcv Tryz.prog 5 2 = some (some .i64) := by kernel_rfl
theorem cv5_3 : tcv Tryz.prog 5 3 = some (some .i64) := by kernel_rfl
theorem cv5_5 : tcv Tryz.prog 5 5 = some (some .u8) := by kernel_rfl
theorem cv5_6 : tcv Tryz.prog 5 6 = some (some .u8) := by kernel_rfl
theorem cv5_12 : tcv Tryz.prog 5 12 = some (some .u64) := by kernel_rfl
theorem cv5_21 : tcv Tryz.prog 5 21 = some (some .i32) := by kernel_rfl
theorem cv5_28 : tcv Tryz.prog 5 28 = some (some .i64) := by kernel_rfl
theorem cv5_43 : tcv Tryz.prog 5 43 = some (some .u64) := by kernel_rfl
theorem cv5_44 : tcv Tryz.prog 5 44 = some (some .u64) := by kernel_rfl
theorem cv5_87 : tcv Tryz.prog 5 87 = some (some .u32) := by kernel_rfl
theorem cv5_89 : tcv Tryz.prog 5 89 = some (some .u64) := by kernel_rfl
theorem cv5_95 : tcv Tryz.prog 5 95 = some (some .i64) := by kernel_rfl
theorem cv5_113 : tcv Tryz.prog 5 113 = some (some .u64) := by kernel_rfl
theorem cv5_132 : tcv Tryz.prog 5 132 = some (some .u8) := by kernel_rfl
theorem cv5_133 : tcv Tryz.prog 5 133 = some (some .u8) := by kernel_rfl
theorem cv5_136 : tcv Tryz.prog 5 136 = some (some .i32) := by kernel_rfl
theorem cv5_137 : tcv Tryz.prog 5 137 = some (some .i32) := by kernel_rfl
theorem cv6_2 : tcv Tryz.prog 6 2 = some (some .i64) := by kernel_rfl
theorem cv6_3 : tcv Tryz.prog 6 3 = some (some .i64) := by kernel_rfl
theorem cv6_5 : tcv Tryz.prog 6 5 = some (some .u8) := by kernel_rfl
theorem cv6_6 : tcv Tryz.prog 6 6 = some (some .u8) := by kernel_rfl
theorem cv6_12 : tcv Tryz.prog 6 12 = some (some .u64) := by kernel_rfl
theorem cv6_21 : tcv Tryz.prog 6 21 = some (some .i32) := by kernel_rfl
theorem cv6_28 : tcv Tryz.prog 6 28 = some (some .i64) := by kernel_rfl
theorem cv6_43 : tcv Tryz.prog 6 43 = some (some .u64) := by kernel_rfl
theorem cv6_44 : tcv Tryz.prog 6 44 = some (some .u64) := by kernel_rfl
theorem cv6_87 : tcv Tryz.prog 6 87 = some (some .u32) := by kernel_rfl
theorem cv6_89 : tcv Tryz.prog 6 89 = some (some .u64) := by kernel_rfl
theorem cv6_95 : tcv Tryz.prog 6 95 = some (some .i64) := by kernel_rfl
theorem cv6_113 : tcv Tryz.prog 6 113 = some (some .u64) := by kernel_rfl
theorem cv6_132 : tcv Tryz.prog 6 132 = some (some .u8) := by kernel_rfl
theorem cv6_133 : tcv Tryz.prog 6 133 = some (some .u8) := by kernel_rfl
theorem cv6_136 : tcv Tryz.prog 6 136 = some (some .i32) := by kernel_rfl
theorem cv6_137 : tcv Tryz.prog 6 137 = some (some .i32) := by kernel_rfl
theorem cv9_9 : tcv Tryz.prog 9 9 = some none := by kernel_rfl
theorem cv9_10 : tcv Tryz.prog 9 10 = some none := by kernel_rfl
theorem cv9_11 : tcv Tryz.prog 9 11 = some none := by kernel_rfl
theorem cv10_9 : tcv Tryz.prog 10 9 = some none := by kernel_rfl
theorem cv10_10 : tcv Tryz.prog 10 10 = some none := by kernel_rfl
theorem cv10_11 : tcv Tryz.prog 10 11 = some none := by kernel_rfl
theorem cv11_9 : tcv Tryz.prog 11 9 = some none := by kernel_rfl
theorem cv11_10 : tcv Tryz.prog 11 10 = some none := by kernel_rfl
theorem cv11_11 : tcv Tryz.prog 11 11 = some none := by kernel_rfl
theorem cv12_2 : tcv Tryz.prog 12 2 = some (some .i64) := by kernel_rfl
theorem cv12_3 : tcv Tryz.prog 12 3 = some (some .i64) := by kernel_rfl
theorem cv12_5 : tcv Tryz.prog 12 5 = some (some .u8) := by kernel_rfl
theorem cv12_6 : tcv Tryz.prog 12 6 = some (some .u8) := by kernel_rfl
theorem cv12_12 : tcv Tryz.prog 12 12 = some (some .u64) := by kernel_rfl
theorem cv12_21 : tcv Tryz.prog 12 21 = some (some .i32) := by kernel_rfl
theorem cv12_28 : tcv Tryz.prog 12 28 = some (some .i64) := by kernel_rfl
theorem cv12_43 : tcv Tryz.prog 12 43 = some (some .u64) := by kernel_rfl
theorem cv12_44 : tcv Tryz.prog 12 44 = some (some .u64) := by kernel_rfl
theorem cv12_87 : tcv Tryz.prog 12 87 = some (some .u32) := by kernel_rfl
theorem cv12_89 : tcv Tryz.prog 12 89 = some (some .u64) := by kernel_rfl
theorem cv12_95 : tcv Tryz.prog 12 95 = some (some .i64) := by kernel_rfl
theorem cv12_113 : tcv Tryz.prog 12 113 = some (some .u64) := by kernel_rfl
theorem cv12_132 : tcv Tryz.prog 12 132 = some (some .u8) := by kernel_rfl
theorem cv12_133 : tcv Tryz.prog 12 133 = some (some .u8) := by kernel_rfl
theorem cv12_136 : tcv Tryz.prog 12 136 = some (some .i32) := by kernel_rfl
theorem cv12_137 : tcv Tryz.prog 12 137 = some (some .i32) := by kernel_rfl
theorem cv21_2 : tcv Tryz.prog 21 2 = some (some .i64) := by kernel_rfl
theorem cv21_3 : tcv Tryz.prog 21 3 = some (some .i64) := by kernel_rfl
theorem cv21_5 : tcv Tryz.prog 21 5 = some (some .u8) := by kernel_rfl
theorem cv21_6 : tcv Tryz.prog 21 6 = some (some .u8) := by kernel_rfl
theorem cv21_12 : tcv Tryz.prog 21 12 = some (some .u64) := by kernel_rfl
theorem cv21_21 : tcv Tryz.prog 21 21 = some (some .i32) := by kernel_rfl
theorem cv21_28 : tcv Tryz.prog 21 28 = some (some .i64) := by kernel_rfl
theorem cv21_43 : tcv Tryz.prog 21 43 = some (some .u64) := by kernel_rfl
theorem cv21_44 : tcv Tryz.prog 21 44 = some (some .u64) := by kernel_rfl
theorem cv21_87 : tcv Tryz.prog 21 87 = some (some .u32) := by kernel_rfl
theorem cv21_89 : tcv Tryz.prog 21 89 = some (some .u64) := by kernel_rfl
theorem cv21_95 : tcv Tryz.prog 21 95 = some (some .i64) := by kernel_rfl
theorem cv21_113 : tcv Tryz.prog 21 113 = some (some .u64) := by kernel_rfl
theorem cv21_132 : tcv Tryz.prog 21 132 = some (some .u8) := by kernel_rfl
theorem cv21_133 : tcv Tryz.prog 21 133 = some (some .u8) := by kernel_rfl
theorem cv21_136 : tcv Tryz.prog 21 136 = some (some .i32) := by kernel_rfl
theorem cv21_137 : tcv Tryz.prog 21 137 = some (some .i32) := by kernel_rfl
theorem cv28_2 : tcv Tryz.prog 28 2 = some (some .i64) := by kernel_rfl
theorem cv28_3 : tcv Tryz.prog 28 3 = some (some .i64) := by kernel_rfl
theorem cv28_5 : tcv Tryz.prog 28 5 = some (some .u8) := by kernel_rfl
theorem cv28_6 : tcv Tryz.prog 28 6 = some (some .u8) := by kernel_rfl
theorem cv28_12 : tcv Tryz.prog 28 12 = some (some .u64) := by kernel_rfl
theorem cv28_21 : tcv Tryz.prog 28 21 = some (some .i32) := by kernel_rfl
theorem cv28_28 : tcv Tryz.prog 28 28 = some (some .i64) := by kernel_rfl
theorem cv28_43 : tcv Tryz.prog 28 43 = some (some .u64) := by kernel_rfl
theorem cv28_44 : tcv Tryz.prog 28 44 = some (some .u64) := by kernel_rfl
theorem cv28_87 : tcv Tryz.prog 28 87 = some (some .u32) := by kernel_rfl
theorem cv28_89 : tcv Tryz.prog 28 89 = some (some .u64) := by kernel_rfl
theorem cv28_95 : tcv Tryz.prog 28 95 = some (some .i64) := by kernel_rfl
theorem cv28_113 : tcv Tryz.prog 28 113 = some (some .u64) := by kernel_rfl
theorem cv28_132 : tcv Tryz.prog 28 132 = some (some .u8) := by kernel_rfl
theorem cv28_133 : tcv Tryz.prog 28 133 = some (some .u8) := by kernel_rfl
theorem cv28_136 : tcv Tryz.prog 28 136 = some (some .i32) := by kernel_rfl
theorem cv28_137 : tcv Tryz.prog 28 137 = some (some .i32) := by kernel_rfl
theorem cv43_2 : tcv Tryz.prog 43 2 = some (some .i64) := by kernel_rfl
theorem cv43_3 : tcv Tryz.prog 43 3 = some (some .i64) := by kernel_rfl
theorem cv43_5 : tcv Tryz.prog 43 5 = some (some .u8) := by kernel_rfl
theorem cv43_6 : tcv Tryz.prog 43 6 = some (some .u8) := by kernel_rfl
theorem cv43_12 : tcv Tryz.prog 43 12 = some (some .u64) := by kernel_rfl
theorem cv43_21 : tcv Tryz.prog 43 21 = some (some .i32) := by kernel_rfl
theorem cv43_28 : tcv Tryz.prog 43 28 = some (some .i64) := by kernel_rfl
theorem cv43_43 : tcv Tryz.prog 43 43 = some (some .u64) := by kernel_rfl
theorem cv43_44 : tcv Tryz.prog 43 44 = some (some .u64) := by kernel_rfl
theorem cv43_87 : tcv Tryz.prog 43 87 = some (some .u32) := by kernel_rfl
theorem cv43_89 : tcv Tryz.prog 43 89 = some (some .u64) := by kernel_rfl
theorem cv43_95 : tcv Tryz.prog 43 95 = some (some .i64) := by kernel_rfl
theorem cv43_113 : tcv Tryz.prog 43 113 = some (some .u64) := by kernel_rfl
theorem cv43_132 : tcv Tryz.prog 43 132 = some (some .u8) := by kernel_rfl
theorem cv43_133 : tcv Tryz.prog 43 133 = some (some .u8) := by kernel_rfl
theorem cv43_136 : tcv Tryz.prog 43 136 = some (some .i32) := by kernel_rfl
theorem cv43_137 : tcv Tryz.prog 43 137 = some (some .i32) := by kernel_rfl
theorem cv44_2 : tcv Tryz.prog 44 2 = some (some .i64) := by kernel_rfl
theorem cv44_3 : tcv Tryz.prog 44 3 = some (some .i64) := by kernel_rfl
theorem cv44_5 : tcv Tryz.prog 44 5 = some (some .u8) := by kernel_rfl
theorem cv44_6 : tcv Tryz.prog 44 6 = some (some .u8) := by kernel_rfl
theorem cv44_12 : tcv Tryz.prog 44 12 = some (some .u64) := by kernel_rfl
theorem cv44_21 : tcv Tryz.prog 44 21 = some (some .i32) := by kernel_rfl
theorem cv44_28 : tcv Tryz.prog 44 28 = some (some .i64) := by kernel_rfl
theorem cv44_43 : tcv Tryz.prog 44 43 = some (some .u64) := by kernel_rfl
theorem cv44_44 : tcv Tryz.prog 44 44 = some (some .u64) := by kernel_rfl
theorem cv44_87 : tcv Tryz.prog 44 87 = some (some .u32) := by kernel_rfl
theorem cv44_89 : tcv Tryz.prog 44 89 = some (some .u64) := by kernel_rfl
theorem cv44_95 : tcv Tryz.prog 44 95 = some (some .i64) := by kernel_rfl
theorem cv44_113 : tcv Tryz.prog 44 113 = some (some .u64) := by kernel_rfl
theorem cv44_132 : tcv Tryz.prog 44 132 = some (some .u8) := by kernel_rfl
theorem cv44_133 : tcv Tryz.prog 44 133 = some (some .u8) := by kernel_rfl
theorem cv44_136 : tcv Tryz.prog 44 136 = some (some .i32) := by kernel_rfl
theorem cv44_137 : tcv Tryz.prog 44 137 = some (some .i32) := by kernel_rfl
theorem cv87_2 : tcv Tryz.prog 87 2 = some (some .i64) := by kernel_rfl
theorem cv87_3 : tcv Tryz.prog 87 3 = some (some .i64) := by kernel_rfl
theorem cv87_5 : tcv Tryz.prog 87 5 = some (some .u8) := by kernel_rfl
theorem cv87_6 : tcv Tryz.prog 87 6 = some (some .u8) := by kernel_rfl
theorem cv87_12 : tcv Tryz.prog 87 12 = some (some .u64) := by kernel_rfl
theorem cv87_21 : tcv Tryz.prog 87 21 = some (some .i32) := by kernel_rfl
theorem cv87_28 : tcv Tryz.prog 87 28 = some (some .i64) := by kernel_rfl
theorem cv87_43 : tcv Tryz.prog 87 43 = some (some .u64) := by kernel_rfl
theorem cv87_44 : tcv Tryz.prog 87 44 = some (some .u64) := by kernel_rfl
theorem cv87_87 : tcv Tryz.prog 87 87 = some (some .u32) := by kernel_rfl
theorem cv87_89 : tcv Tryz.prog 87 89 = some (some .u64) := by kernel_rfl
theorem cv87_95 : tcv Tryz.prog 87 95 = some (some .i64) := by kernel_rfl
theorem cv87_113 : tcv Tryz.prog 87 113 = some (some .u64) := by kernel_rfl
theorem cv87_132 : tcv Tryz.prog 87 132 = some (some .u8) := by kernel_rfl
theorem cv87_133 : tcv Tryz.prog 87 133 = some (some .u8) := by kernel_rfl
theorem cv87_136 : tcv Tryz.prog 87 136 = some (some .i32) := by kernel_rfl
theorem cv87_137 : tcv Tryz.prog 87 137 = some (some .i32) := by kernel_rfl
theorem cv89_2 : tcv Tryz.prog 89 2 = some (some .i64) := by kernel_rfl
theorem cv89_3 : tcv Tryz.prog 89 3 = some (some .i64) := by kernel_rfl
theorem cv89_5 : tcv Tryz.prog 89 5 = some (some .u8) := by kernel_rfl
theorem cv89_6 : tcv Tryz.prog 89 6 = some (some .u8) := by kernel_rfl
theorem cv89_12 : tcv Tryz.prog 89 12 = some (some .u64) := by kernel_rfl
theorem cv89_21 : tcv Tryz.prog 89 21 = some (some .i32) := by kernel_rfl
theorem cv89_28 : tcv Tryz.prog 89 28 = some (some .i64) := by kernel_rfl
theorem cv89_43 : tcv Tryz.prog 89 43 = some (some .u64) := by kernel_rfl
theorem cv89_44 : tcv Tryz.prog 89 44 = some (some .u64) := by kernel_rfl
theorem cv89_87 : tcv Tryz.prog 89 87 = some (some .u32) := by kernel_rfl
theorem cv89_89 : tcv Tryz.prog 89 89 = some (some .u64) := by kernel_rfl
theorem cv89_95 : tcv Tryz.prog 89 95 = some (some .i64) := by kernel_rfl
theorem cv89_113 : tcv Tryz.prog 89 113 = some (some .u64) := by kernel_rfl
theorem cv89_132 : tcv Tryz.prog 89 132 = some (some .u8) := by kernel_rfl
theorem cv89_133 : tcv Tryz.prog 89 133 = some (some .u8) := by kernel_rfl
theorem cv89_136 : tcv Tryz.prog 89 136 = some (some .i32) := by kernel_rfl
theorem cv89_137 : tcv Tryz.prog 89 137 = some (some .i32) := by kernel_rfl
theorem cv95_2 : tcv Tryz.prog 95 2 = some (some .i64) := by kernel_rfl
theorem cv95_3 : tcv Tryz.prog 95 3 = some (some .i64) := by kernel_rfl
theorem cv95_5 : tcv Tryz.prog 95 5 = some (some .u8) := by kernel_rfl
theorem cv95_6 : tcv Tryz.prog 95 6 = some (some .u8) := by kernel_rfl
theorem cv95_12 : tcv Tryz.prog 95 12 = some (some .u64) := by kernel_rfl
theorem cv95_21 : tcv Tryz.prog 95 21 = some (some .i32) := by kernel_rfl
theorem cv95_28 : tcv Tryz.prog 95 28 = some (some .i64) := by kernel_rfl
theorem cv95_43 : tcv Tryz.prog 95 43 = some (some .u64) := by kernel_rfl
theorem cv95_44 : tcv Tryz.prog 95 44 = some (some .u64) := by kernel_rfl
theorem cv95_87 : tcv Tryz.prog 95 87 = some (some .u32) := by kernel_rfl
theorem cv95_89 : tcv Tryz.prog 95 89 = some (some .u64) := by kernel_rfl
theorem cv95_95 : tcv Tryz.prog 95 95 = some (some .i64) := by kernel_rfl
theorem cv95_113 : tcv Tryz.prog 95 113 = some (some .u64) := by kernel_rfl
theorem cv95_132 : tcv Tryz.prog 95 132 = some (some .u8) := by kernel_rfl
theorem cv95_133 : tcv Tryz.prog 95 133 = some (some .u8) := by kernel_rfl
theorem cv95_136 : tcv Tryz.prog 95 136 = some (some .i32) := by kernel_rfl
theorem cv95_137 : tcv Tryz.prog 95 137 = some (some .i32) := by kernel_rfl
theorem cv113_2 : tcv Tryz.prog 113 2 = some (some .i64) := by kernel_rfl
theorem cv113_3 : tcv Tryz.prog 113 3 = some (some .i64) := by kernel_rfl
theorem cv113_5 : tcv Tryz.prog 113 5 = some (some .u8) := by kernel_rfl
theorem cv113_6 : tcv Tryz.prog 113 6 = some (some .u8) := by kernel_rfl
theorem cv113_12 : tcv Tryz.prog 113 12 = some (some .u64) := by kernel_rfl
theorem cv113_21 : tcv Tryz.prog 113 21 = some (some .i32) := by kernel_rfl
theorem cv113_28 : tcv Tryz.prog 113 28 = some (some .i64) := by kernel_rfl
theorem cv113_43 : tcv Tryz.prog 113 43 = some (some .u64) := by kernel_rfl
theorem cv113_44 : tcv Tryz.prog 113 44 = some (some .u64) := by kernel_rfl
theorem cv113_87 : tcv Tryz.prog 113 87 = some (some .u32) := by kernel_rfl
theorem cv113_89 : tcv Tryz.prog 113 89 = some (some .u64) := by kernel_rfl
theorem cv113_95 : tcv Tryz.prog 113 95 = some (some .i64) := by kernel_rfl
theorem cv113_113 : tcv Tryz.prog 113 113 = some (some .u64) := by kernel_rfl
theorem cv113_132 : tcv Tryz.prog 113 132 = some (some .u8) := by kernel_rfl
theorem cv113_133 : tcv Tryz.prog 113 133 = some (some .u8) := by kernel_rfl
theorem cv113_136 : tcv Tryz.prog 113 136 = some (some .i32) := by kernel_rfl
theorem cv113_137 : tcv Tryz.prog 113 137 = some (some .i32) := by kernel_rfl
theorem cv132_2 : tcv Tryz.prog 132 2 = some (some .i64) := by kernel_rfl
theorem cv132_3 : tcv Tryz.prog 132 3 = some (some .i64) := by kernel_rfl
theorem cv132_5 : tcv Tryz.prog 132 5 = some (some .u8) := by kernel_rfl
theorem cv132_6 : tcv Tryz.prog 132 6 = some (some .u8) := by kernel_rfl
theorem cv132_12 : tcv Tryz.prog 132 12 = some (some .u64) := by kernel_rfl
theorem cv132_21 : tcv Tryz.prog 132 21 = some (some .i32) := by kernel_rfl
theorem cv132_28 : tcv Tryz.prog 132 28 = some (some .i64) := by kernel_rfl
theorem cv132_43 : tcv Tryz.prog 132 43 = some (some .u64) := by kernel_rfl
theorem cv132_44 : tcv Tryz.prog 132 44 = some (some .u64) := by kernel_rfl
theorem cv132_87 : tcv Tryz.prog 132 87 = some (some .u32) := by kernel_rfl
theorem cv132_89 : tcv Tryz.prog 132 89 = some (some .u64) := by kernel_rfl
theorem cv132_95 : tcv Tryz.prog 132 95 = some (some .i64) := by kernel_rfl
theorem cv132_113 : tcv Tryz.prog 132 113 = some (some .u64) := by kernel_rfl
theorem cv132_132 : tcv Tryz.prog 132 132 = some (some .u8) := by kernel_rfl
theorem cv132_133 : tcv Tryz.prog 132 133 = some (some .u8) := by kernel_rfl
theorem cv132_136 : tcv Tryz.prog 132 136 = some (some .i32) := by kernel_rfl
theorem cv132_137 : tcv Tryz.prog 132 137 = some (some .i32) := by kernel_rfl
theorem cv133_2 : tcv Tryz.prog 133 2 = some (some .i64) := by kernel_rfl
theorem cv133_3 : tcv Tryz.prog 133 3 = some (some .i64) := by kernel_rfl
theorem cv133_5 : tcv Tryz.prog 133 5 = some (some .u8) := by kernel_rfl
theorem cv133_6 : tcv Tryz.prog 133 6 = some (some .u8) := by kernel_rfl
theorem cv133_12 : tcv Tryz.prog 133 12 = some (some .u64) := by kernel_rfl
theorem cv133_21 : tcv Tryz.prog 133 21 = some (some .i32) := by kernel_rfl
theorem cv133_28 : tcv Tryz.prog 133 28 = some (some .i64) := by kernel_rfl
theorem cv133_43 : tcv Tryz.prog 133 43 = some (some .u64) := by kernel_rfl
theorem cv133_44 : tcv Tryz.prog 133 44 = some (some .u64) := by kernel_rfl
theorem cv133_87 : tcv Tryz.prog 133 87 = some (some .u32) := by kernel_rfl
theorem cv133_89 : tcv Tryz.prog 133 89 = some (some .u64) := by kernel_rfl
theorem cv133_95 : tcv Tryz.prog 133 95 = some (some .i64) := by kernel_rfl
theorem cv133_113 : tcv Tryz.prog 133 113 = some (some .u64) := by kernel_rfl
theorem cv133_132 : tcv Tryz.prog 133 132 = some (some .u8) := by kernel_rfl
theorem cv133_133 : tcv Tryz.prog 133 133 = some (some .u8) := by kernel_rfl
theorem cv133_136 : tcv Tryz.prog 133 136 = some (some .i32) := by kernel_rfl
theorem cv133_137 : tcv Tryz.prog 133 137 = some (some .i32) := by kernel_rfl
theorem cv136_2 : tcv Tryz.prog 136 2 = some (some .i64) := by kernel_rfl
theorem cv136_3 : tcv Tryz.prog 136 3 = some (some .i64) := by kernel_rfl
theorem cv136_5 : tcv Tryz.prog 136 5 = some (some .u8) := by kernel_rfl
theorem cv136_6 : tcv Tryz.prog 136 6 = some (some .u8) := by kernel_rfl
theorem cv136_12 : tcv Tryz.prog 136 12 = some (some .u64) := by kernel_rfl
theorem cv136_21 : tcv Tryz.prog 136 21 = some (some .i32) := by kernel_rfl
theorem cv136_28 : tcv Tryz.prog 136 28 = some (some .i64) := by kernel_rfl
theorem cv136_43 : tcv Tryz.prog 136 43 = some (some .u64) := by kernel_rfl
theorem cv136_44 : tcv Tryz.prog 136 44 = some (some .u64) := by kernel_rfl
theorem cv136_87 : tcv Tryz.prog 136 87 = some (some .u32) := by kernel_rfl
theorem cv136_89 : tcv Tryz.prog 136 89 = some (some .u64) := by kernel_rfl
theorem cv136_95 : tcv Tryz.prog 136 95 = some (some .i64) := by kernel_rfl
theorem cv136_113 : tcv Tryz.prog 136 113 = some (some .u64) := by kernel_rfl
theorem cv136_132 : tcv Tryz.prog 136 132 = some (some .u8) := by kernel_rfl
theorem cv136_133 : tcv Tryz.prog 136 133 = some (some .u8) := by kernel_rfl
theorem cv136_136 : tcv Tryz.prog 136 136 = some (some .i32) := by kernel_rfl
theorem cv136_137 : tcv Tryz.prog 136 137 = some (some .i32) := by kernel_rfl
theorem cv137_2 : tcv Tryz.prog 137 2 = some (some .i64) := by kernel_rfl
theorem cv137_3 : tcv Tryz.prog 137 3 = some (some .i64) := by kernel_rfl
theorem cv137_5 : tcv Tryz.prog 137 5 = some (some .u8) := by kernel_rfl
theorem cv137_6 : tcv Tryz.prog 137 6 = some (some .u8) := by kernel_rfl
theorem cv137_12 : tcv Tryz.prog 137 12 = some (some .u64) := by kernel_rfl
theorem cv137_21 : tcv Tryz.prog 137 21 = some (some .i32) := by kernel_rfl
theorem cv137_28 : tcv Tryz.prog 137 28 = some (some .i64) := by kernel_rfl
theorem cv137_43 : tcv Tryz.prog 137 43 = some (some .u64) := by kernel_rfl
theorem cv137_44 : tcv Tryz.prog 137 44 = some (some .u64) := by kernel_rfl
theorem cv137_87 : tcv Tryz.prog 137 87 = some (some .u32) := by kernel_rfl
theorem cv137_89 : tcv Tryz.prog 137 89 = some (some .u64) := by kernel_rfl
theorem cv137_95 : tcv Tryz.prog 137 95 = some (some .i64) := by kernel_rfl
theorem cv137_113 : tcv Tryz.prog 137 113 = some (some .u64) := by kernel_rfl
theorem cv137_132 : tcv Tryz.prog 137 132 = some (some .u8) := by kernel_rfl
theorem cv137_133 : tcv Tryz.prog 137 133 = some (some .u8) := by kernel_rfl
theorem cv137_136 : tcv Tryz.prog 137 136 = some (some .i32) := by kernel_rfl
theorem cv137_137 : tcv Tryz.prog 137 137 = some (some .i32) := by kernel_rfl
attribute [go_sem] sz1 ag1 zc1 sr1 sz2 ag2 zc2 sr2 sz3 ag3 zc3 sr3 sz4 ag4 zc4 sr4 bo4 sz5 ag5 zc5 sr5 sz6 ag6 zc6 sr6 sz7 ag7 zc7 sr7 fd7_0 fo7_0 fd7_1 fo7_1 fd7_2 fo7_2 fd7_3 fo7_3 pl7 bd7 sz8 ag8 zc8 sr8 fd8_0 fo8_0 fd8_1 fo8_1 fd8_2 fo8_2 fd8_3 fo8_3 pl8 bd8 sz9 ag9 zc9 sr9 cu9 ln9 sz10 ag10 zc10 sr10 cu10 ln10 sz11 ag11 zc11 sr11 cu11 ln11 sz12 ag12 zc12 sr12 sz13 ag13 zc13 sr13 fd13_0 fo13_0 fd13_1 fo13_1 pl13 bd13 sz14 ag14 zc14 sr14 fd14_0 fo14_0 fd14_1 fo14_1 pl14 bd14 sz15 ag15 zc15 sr15 sz16 ag16 zc16 sr16 sz17 ag17 zc17 sr17 sz18 ag18 zc18 sr18 fd18_0 fo18_0 pl18 bd18 sz19 ag19 zc19 sr19 fd19_0 fo19_0 pl19 bd19 sz20 ag20 zc20 sr20 sz21 ag21 zc21 sr21 sz22 ag22 zc22 sr22 el22 cu22 ap22 bs22 ms22 mm22 mc22 mb22 ma22 ae22_22 ln22 sz23 ag23 zc23 sr23 fd23_0 fo23_0 fd23_1 fo23_1 fd23_2 fo23_2 pl23 bd23 sz24 ag24 zc24 sr24 fd24_0 fo24_0 fd24_1 fo24_1 fd24_2 fo24_2 pl24 bd24 sz25 ag25 zc25 sr25 el25 cu25 ap25 bs25 ms25 mm25 mc25 mb25 ma25 ae25_25 ln25 sz26 ag26 zc26 sr26 sz27 ag27 zc27 sr27 sz28 ag28 zc28 sr28 sz29 ag29 zc29 sr29 sz30 ag30 zc30 sr30 el30 cu30 ap30 bs30 ms30 mm30 mc30 mb30 ma30 ae30_30 ln30 sz32 ag32 zc32 sr32 sz34 ag34 zc34 sr34 sz35 ag35 zc35 sr35 sz36 ag36 zc36 sr36 sz37 ag37 zc37 sr37 sz38 ag38 zc38 sr38 fd38_0 fo38_0 fd38_1 fo38_1 fd38_2 fo38_2 fd38_3 fo38_3 fd38_4 fo38_4 fd38_5 fo38_5 fd38_6 fo38_6 fd38_7 fo38_7 pl38 bd38 sz39 ag39 zc39 sr39 el39 cu39 ap39 bs39 ms39 mm39 mc39 mb39 ma39 ae39_39 ln39 sz40 ag40 zc40 sr40 sz41 ag41 zc41 sr41 sz42 ag42 zc42 sr42 sz43 ag43 zc43 sr43 sz44 ag44 zc44 sr44 sz45 ag45 zc45 sr45 sz46 ag46 zc46 sr46 fd46_0 fo46_0 fd46_1 fo46_1 fd46_2 fo46_2 pl46 bd46 sz47 ag47 zc47 sr47 fd47_0 fo47_0 fd47_1 fo47_1 fd47_2 fo47_2 pl47 bd47 sz49 ag49 zc49 sr49 sz50 ag50 zc50 sr50 sz51 ag51 zc51 sr51 fd51_0 fo51_0 fd51_1 fo51_1 pl51 bd51 sz52 ag52 zc52 sr52 fd52_0 fo52_0 fd52_1 fo52_1 pl52 bd52 sz54 ag54 zc54 sr54 sz56 ag56 zc56 sr56 sz57 ag57 zc57 sr57 sz58 ag58 zc58 sr58 sz59 ag59 zc59 sr59 sz60 ag60 zc60 sr60 sz61 ag61 zc61 sr61 sz62 ag62 zc62 sr62 sz63 ag63 zc63 sr63 sz64 ag64 zc64 sr64 sz65 ag65 zc65 sr65 sz66 ag66 zc66 sr66 el66 cu66 ap66 bs66 ms66 mm66 mc66 mb66 ma66 ae66_66 ln66 sz67 ag67 zc67 sr67 sz68 ag68 zc68 sr68 sz69 ag69 zc69 sr69 sz70 ag70 zc70 sr70 sz71 ag71 zc71 sr71 sz72 ag72 zc72 sr72 sz73 ag73 zc73 sr73 ln73 mk73 sz74 ag74 zc74 sr74 sz75 ag75 zc75 sr75 sz76 ag76 zc76 sr76 sz77 ag77 zc77 sr77 sz79 ag79 zc79 sr79 sz80 ag80 zc80 sr80 sz81 ag81 zc81 sr81 sz82 ag82 zc82 sr82 sz83 ag83 zc83 sr83 sz84 ag84 zc84 sr84 sz85 ag85 zc85 sr85 sz86 ag86 zc86 sr86 sz87 ag87 zc87 sr87 sz88 ag88 zc88 sr88 sz89 ag89 zc89 sr89 sz90 ag90 zc90 sr90 ln90 mk90 sz91 ag91 zc91 sr91 sz92 ag92 zc92 sr92 sz93 ag93 zc93 sr93 sz94 ag94 zc94 sr94 sz95 ag95 zc95 sr95 sz97 ag97 zc97 sr97 sz98 ag98 zc98 sr98 sz99 ag99 zc99 sr99 sz100 ag100 zc100 sr100 sz102 ag102 zc102 sr102 sz103 ag103 zc103 sr103 sz104 ag104 zc104 sr104 sz105 ag105 zc105 sr105 sz106 ag106 zc106 sr106 sz107 ag107 zc107 sr107 sz108 ag108 zc108 sr108 sz109 ag109 zc109 sr109 sz110 ag110 zc110 sr110 sz111 ag111 zc111 sr111 sz112 ag112 zc112 sr112 sz113 ag113 zc113 sr113 sz114 ag114 zc114 sr114 sz115 ag115 zc115 sr115 sz116 ag116 zc116 sr116 sz117 ag117 zc117 sr117 sz118 ag118 zc118 sr118 sz119 ag119 zc119 sr119 sz120 ag120 zc120 sr120 sz121 ag121 zc121 sr121 sz123 ag123 zc123 sr123 sz124 ag124 zc124 sr124 sz125 ag125 zc125 sr125 sz126 ag126 zc126 sr126 fd126_0 fo126_0 fd126_1 fo126_1 fd126_2 fo126_2 fd126_3 fo126_3 pl126 bd126 sz127 ag127 zc127 sr127 fd127_0 fo127_0 fd127_1 fo127_1 fd127_2 fo127_2 fd127_3 fo127_3 pl127 bd127 sz128 ag128 zc128 sr128 el128 ln128 sz129 ag129 zc129 sr129 fd129_0 pl129 bd129 sz130 ag130 zc130 sr130 fd130_0 pl130 bd130 sz131 ag131 zc131 sr131 sz132 ag132 zc132 sr132 sz133 ag133 zc133 sr133 sz134 ag134 zc134 sr134 sz135 ag135 zc135 sr135 sz136 ag136 zc136 sr136 sz137 ag137 zc137 sr137 sz138 ag138 zc138 sr138 fd138_0 fo138_0 fd138_1 fo138_1 fd138_2 fo138_2 fd138_3 fo138_3 fd138_4 fo138_4 fd138_5 fo138_5 fd138_6 fo138_6 fd138_7 fo138_7 fd138_8 fo138_8 fd138_9 fo138_9 fd138_10 fo138_10 pl138 bd138 sz139 ag139 zc139 sr139 fd139_0 fo139_0 fd139_1 fo139_1 fd139_2 fo139_2 fd139_3 fo139_3 fd139_4 fo139_4 fd139_5 fo139_5 fd139_6 fo139_6 fd139_7 fo139_7 fd139_8 fo139_8 fd139_9 fo139_9 fd139_10 fo139_10 pl139 bd139 sz140 ag140 zc140 sr140 mu73 mu90 ar128 ba128 cv2_2 cv2_3 cv2_5 cv2_6 cv2_12 cv2_21 cv2_28 cv2_43 cv2_44 cv2_87 cv2_89 cv2_95 cv2_113 cv2_132 cv2_133 cv2_136 cv2_137 cv3_2 cv3_3 cv3_5 cv3_6 cv3_12 cv3_21 cv3_28 cv3_43 cv3_44 cv3_87 cv3_89 cv3_95 cv3_113 cv3_132 cv3_133 cv3_136 cv3_137 cv5_2 cv5_3 cv5_5 cv5_6 cv5_12 cv5_21 cv5_28 cv5_43 cv5_44 cv5_87 cv5_89 cv5_95 cv5_113 cv5_132 cv5_133 cv5_136 cv5_137 cv6_2 cv6_3 cv6_5 cv6_6 cv6_12 cv6_21 cv6_28 cv6_43 cv6_44 cv6_87 cv6_89 cv6_95 cv6_113 cv6_132 cv6_133 cv6_136 cv6_137 cv9_9 cv9_10 cv9_11 cv10_9 cv10_10 cv10_11 cv11_9 cv11_10 cv11_11 cv12_2 cv12_3 cv12_5 cv12_6 cv12_12 cv12_21 cv12_28 cv12_43 cv12_44 cv12_87 cv12_89 cv12_95 cv12_113 cv12_132 cv12_133 cv12_136 cv12_137 cv21_2 cv21_3 cv21_5 cv21_6 cv21_12 cv21_21 cv21_28 cv21_43 cv21_44 cv21_87 cv21_89 cv21_95 cv21_113 cv21_132 cv21_133 cv21_136 cv21_137 cv28_2 cv28_3 cv28_5 cv28_6 cv28_12 cv28_21 cv28_28 cv28_43 cv28_44 cv28_87 cv28_89 cv28_95 cv28_113 cv28_132 cv28_133 cv28_136 cv28_137 cv43_2 cv43_3 cv43_5 cv43_6 cv43_12 cv43_21 cv43_28 cv43_43 cv43_44 cv43_87 cv43_89 cv43_95 cv43_113 cv43_132 cv43_133 cv43_136 cv43_137 cv44_2 cv44_3 cv44_5 cv44_6 cv44_12 cv44_21 cv44_28 cv44_43 cv44_44 cv44_87 cv44_89 cv44_95 cv44_113 cv44_132 cv44_133 cv44_136 cv44_137 cv87_2 cv87_3 cv87_5 cv87_6 cv87_12 cv87_21 cv87_28 cv87_43 cv87_44 cv87_87 cv87_89 cv87_95 cv87_113 cv87_132 cv87_133 cv87_136 cv87_137 cv89_2 cv89_3 cv89_5 cv89_6 cv89_12 cv89_21 cv89_28 cv89_43 cv89_44 cv89_87 cv89_89 cv89_95 cv89_113 cv89_132 cv89_133 cv89_136 cv89_137 cv95_2 cv95_3 cv95_5 cv95_6 cv95_12 cv95_21 cv95_28 cv95_43 cv95_44 cv95_87 cv95_89 cv95_95 cv95_113 cv95_132 cv95_133 cv95_136 cv95_137 cv113_2 cv113_3 cv113_5 cv113_6 cv113_12 cv113_21 cv113_28 cv113_43 cv113_44 cv113_87 cv113_89 cv113_95 cv113_113 cv113_132 cv113_133 cv113_136 cv113_137 cv132_2 cv132_3 cv132_5 cv132_6 cv132_12 cv132_21 cv132_28 cv132_43 cv132_44 cv132_87 cv132_89 cv132_95 cv132_113 cv132_132 cv132_133 cv132_136 cv132_137 cv133_2 cv133_3 cv133_5 cv133_6 cv133_12 cv133_21 cv133_28 cv133_43 cv133_44 cv133_87 cv133_89 cv133_95 cv133_113 cv133_132 cv133_133 cv133_136 cv133_137 cv136_2 cv136_3 cv136_5 cv136_6 cv136_12 cv136_21 cv136_28 cv136_43 cv136_44 cv136_87 cv136_89 cv136_95 cv136_113 cv136_132 cv136_133 cv136_136 cv136_137 cv137_2 cv137_3 cv137_5 cv137_6 cv137_12 cv137_21 cv137_28 cv137_43 cv137_44 cv137_87 cv137_89 cv137_95 cv137_113 cv137_132 cv137_133 cv137_136 cv137_137
end Go.Proofs.YtnioapinljedmaaGreat.Ty
