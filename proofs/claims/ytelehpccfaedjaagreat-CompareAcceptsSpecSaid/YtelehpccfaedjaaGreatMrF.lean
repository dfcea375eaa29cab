/- Texts joined: Ty. No conditions. -/
import Derived.Test.YtelehpccfaedjaaGreatProg
import Derived.Test.YtelehpccfaedjaaGreatMrE
import Derived.KernelRfl
/- The closed facts on the types of this translation: cells, zero values, places of fields, elements. By program; no conditions. -/
namespace Go.Proofs.YtelehpccfaedjaaGreat.Ty
open Go Go.Proofs Go.Abs
theorem mixed : Tryz.prog.follows .mixedOrders = true := by kernel_rfl
theorem sz1 : tsz Tryz.prog 1 = some 1 := by kernel_rfl
theorem ag1 : tag Tryz.prog 1 = some none := by kernel_rfl
theorem zc1 : tzc Tryz.prog 1 = some [.nilFunc] := by kernel_rfl
theorem sr1 : tsrc Tryz.prog 1 = true := by kernel_rfl
theorem sz2 : tsz Tryz.prog 2 = some 1 := by kernel_rfl
theorem ag2 : tag Tryz.prog 2 = some none := by kernel_rfl
theorem zc2 : tzc Tryz.prog 2 = some [(.int .i64 0)] := by kernel_rfl
theorem sr2 : tsrc Tryz.prog 2 = false := by kernel_rfl
theorem sz3 : tsz Tryz.prog 3 = some 1 := by kernel_rfl
theorem ag3 : tag Tryz.prog 3 = some none := by kernel_rfl
theorem zc3 : tzc Tryz.prog 3 = some [(.int .i64 0)] := by kernel_rfl
theorem sr3 : tsrc Tryz.prog 3 = false := by kernel_rfl
theorem sz4 : tsz Tryz.prog 4 = some 1 := by kernel_rfl
theorem ag4 : tag Tryz.prog 4 = some none := by kernel_rfl
theorem zc4 : tzc Tryz.prog 4 = some [(.bool false)] := by kernel_rfl
theorem sr4 : tsrc Tryz.prog 4 = true := by kernel_rfl
theorem bo4 : tbool Tryz.prog 4 = true := by kernel_rfl
theorem sz5 : tsz Tryz.prog 5 = some 1 := by kernel_rfl
theorem ag5 : tag Tryz.prog 5 = some none := by kernel_rfl
theorem zc5 : tzc Tryz.prog 5 = some [(.int .u8 0)] := by kernel_rfl
theorem sr5 : tsrc Tryz.prog 5 = false := by kernel_rfl
theorem sz6 : tsz Tryz.prog 6 = some 1 := by kernel_rfl
theorem ag6 : tag Tryz.prog 6 = some none := by kernel_rfl
theorem zc6 : tzc Tryz.prog 6 = some [(.int .u8 0)] := by kernel_rfl
theorem sr6 : tsrc Tryz.prog 6 = false := by kernel_rfl
theorem ni6 : tni Tryz.prog 6 = true := by kernel_rfl
theorem ta6 : tas Tryz.prog 6 = some (.int .u8 0) := by kernel_rfl
theorem sz7 : tsz Tryz.prog 7 = some 4 := by kernel_rfl
theorem ag7 : tag Tryz.prog 7 = some (some 4) := by kernel_rfl
theorem zc7 : tzc Tryz.prog 7 = some [(.int .i64 0), (.int .i64 0), (.bool false), (.int .u8 0)] := by kernel_rfl
theorem sr7 : tsrc Tryz.prog 7 = true := by kernel_rfl
theorem fd7_0 : tfd Tryz.prog 7 0 = some (0, 2) := by kernel_rfl
theorem fo7_0 : tfo Tryz.prog 7 0 = some 0 := by kernel_rfl
theorem fd7_1 : tfd Tryz.prog 7 1 = some (1, 3) := by kernel_rfl
theorem fo7_1 : tfo Tryz.prog 7 1 = some 1 := by kernel_rfl
theorem fd7_2 : tfd Tryz.prog 7 2 = some (2, 4) := by kernel_rfl
theorem fo7_2 : tfo Tryz.prog 7 2 = some 2 := by kernel_rfl
theorem fd7_3 : tfd Tryz.prog 7 3 = some (3, 6) := by kernel_rfl
theorem fo7_3 : tfo Tryz.prog 7 3 = some 3 := by kernel_rfl
theorem pl7 : tpl Tryz.prog 7 = some [(0, 1), (1, 1), (2, 1), (3, 1)] := by kernel_rfl
theorem bd7 (ps : List (Nat × AV)) (K : AV → Prop) : aBuild Tryz.prog 7 ps K = aBld (tpl Tryz.prog 7) (tzc Tryz.prog 7) ps K := aBuild_eq (by rw [pl7]; rfl) ps K
theorem sz8 : tsz Tryz.prog 8 = some 4 := by kernel_rfl
theorem ag8 : tag Tryz.prog 8 = some (some 4) := by kernel_rfl
theorem zc8 : tzc Tryz.prog 8 = some [(.int .i64 0), (.int .i64 0), (.bool false), (.int .u8 0)] := by kernel_rfl
theorem sr8 : tsrc Tryz.prog 8 = true := by kernel_rfl
theorem fd8_0 : tfd Tryz.prog 8 0 = some (0, 2) := by kernel_rfl
theorem fo8_0 : tfo Tryz.prog 8 0 = some 0 := by kernel_rfl
theorem fd8_1 : tfd Tryz.prog 8 1 = some (1, 3) := by kernel_rfl
theorem fo8_1 : tfo Tryz.prog 8 1 = some 1 := by kernel_rfl
theorem fd8_2 : tfd Tryz.prog 8 2 = some (2, 4) := by kernel_rfl
theorem fo8_2 : tfo Tryz.prog 8 2 = some 2 := by kernel_rfl
theorem fd8_3 : tfd Tryz.prog 8 3 = some (3, 6) := by kernel_rfl
theorem fo8_3 : tfo Tryz.prog 8 3 = some 3 := by kernel_rfl
theorem pl8 : tpl Tryz.prog 8 = some [(0, 1), (1, 1), (2, 1), (3, 1)] := by kernel_rfl
theorem bd8 (ps : List (Nat × AV)) (K : AV → Prop) : aBuild Tryz.prog 8 ps K = aBld (tpl Tryz.prog 8) (tzc Tryz.prog 8) ps K := aBuild_eq (by rw [pl8]; rfl) ps K
theorem ni8 : tni Tryz.prog 8 = true := by kernel_rfl
theorem ta8 : tas Tryz.prog 8 = some (.agg [(.int .i64 0), (.int .i64 0), (.bool false), (.int .u8 0)]) := by kernel_rfl
theorem sz9 : tsz Tryz.prog 9 = some 1 := by kernel_rfl
theorem ag9 : tag Tryz.prog 9 = some none := by kernel_rfl
theorem zc9 : tzc Tryz.prog 9 = some [(.str ⟨#[]⟩)] := by kernel_rfl
theorem sr9 : tsrc Tryz.prog 9 = true := by kernel_rfl
theorem cu9 : tcut Tryz.prog 9 = some none := by kernel_rfl
theorem ln9 : tlen Tryz.prog 9 = some .str := by kernel_rfl
theorem sz10 : tsz Tryz.prog 10 = some 1 := by kernel_rfl
theorem ag10 : tag Tryz.prog 10 = some none := by kernel_rfl
theorem zc10 : tzc Tryz.prog 10 = some [(.str ⟨#[]⟩)] := by kernel_rfl
theorem sr10 : tsrc Tryz.prog 10 = true := by kernel_rfl
theorem ni10 : tni Tryz.prog 10 = true := by kernel_rfl
theorem ta10 : tas Tryz.prog 10 = some (.str ⟨#[]⟩) := by kernel_rfl
theorem cu10 : tcut Tryz.prog 10 = some none := by kernel_rfl
theorem ln10 : tlen Tryz.prog 10 = some .str := by kernel_rfl
theorem sz11 : tsz Tryz.prog 11 = some 1 := by kernel_rfl
theorem ag11 : tag Tryz.prog 11 = some none := by kernel_rfl
theorem zc11 : tzc Tryz.prog 11 = some [(.str ⟨#[]⟩)] := by kernel_rfl
theorem sr11 : tsrc Tryz.prog 11 = true := by kernel_rfl
theorem ni11 : tni Tryz.prog 11 = true := by kernel_rfl
theorem ta11 : tas Tryz.prog 11 = some (.str ⟨#[]⟩) := by kernel_rfl
theorem cu11 : tcut Tryz.prog 11 = some none := by kernel_rfl
theorem ln11 : tlen Tryz.prog 11 = some .str := by kernel_rfl
theorem sz12 : tsz Tryz.prog 12 = some 1 := by kernel_rfl
theorem ag12 : tag Tryz.prog 12 = some none := by kernel_rfl
theorem zc12 : tzc Tryz.prog 12 = some [(.int .u64 0)] := by kernel_rfl
theorem sr12 : tsrc Tryz.prog 12 = false := by kernel_rfl
theorem sz13 : tsz Tryz.prog 13 = some 2 := by kernel_rfl
theorem ag13 : tag Tryz.prog 13 = some (some 2) := by kernel_rfl
theorem zc13 : tzc Tryz.prog 13 = some [(.str ⟨#[]⟩), (.int .u64 0)] := by kernel_rfl
theorem sr13 : tsrc Tryz.prog 13 = true := by kernel_rfl
theorem fd13_0 : tfd Tryz.prog 13 0 = some (0, 9) := by kernel_rfl
theorem fo13_0 : tfo Tryz.prog 13 0 = some 0 := by kernel_rfl
theorem fd13_1 : tfd Tryz.prog 13 1 = some (1, 12) := by kernel_rfl
theorem fo13_1 : tfo Tryz.prog 13 1 = some 1 := by kernel_rfl
theorem pl13 : tpl Tryz.prog 13 = some [(0, 1), (1, 1)] := by kernel_rfl
theorem bd13 (ps : List (Nat × AV)) (K : AV → Prop) : aBuild Tryz.prog 13 ps K = aBld (tpl Tryz.prog 13) (tzc Tryz.prog 13) ps K := aBuild_eq (by rw [pl13]; rfl) ps K
theorem sz14 : tsz Tryz.prog 14 = some 2 := by kernel_rfl
theorem ag14 : tag Tryz.prog 14 = some (some 2) := by kernel_rfl
theorem zc14 : tzc Tryz.prog 14 = some [(.str ⟨#[]⟩), (.int .u64 0)] := by kernel_rfl
theorem sr14 : tsrc Tryz.prog 14 = true := by kernel_rfl
theorem fd14_0 : tfd Tryz.prog 14 0 = some (0, 9) := by kernel_rfl
theorem fo14_0 : tfo Tryz.prog 14 0 = some 0 := by kernel_rfl
theorem fd14_1 : tfd Tryz.prog 14 1 = some (1, 12) := by kernel_rfl
theorem fo14_1 : tfo Tryz.prog 14 1 = some 1 := by kernel_rfl
theorem pl14 : tpl Tryz.prog 14 = some [(0, 1), (1, 1)] := by kernel_rfl
theorem bd14 (ps : List (Nat × AV)) (K : AV → Prop) : aBuild Tryz.prog 14 ps K = aBld (tpl Tryz.prog 14) (tzc Tryz.prog 14) ps K := aBuild_eq (by rw [pl14]; rfl) ps K
theorem ni14 : tni Tryz.prog 14 = true := by kernel_rfl
theorem ta14 : tas Tryz.prog 14 = some (.agg [(.str ⟨#[]⟩), (.int .u64 0)]) := by kernel_rfl
theorem sz15 : tsz Tryz.prog 15 = some 1 := by kernel_rfl
theorem ag15 : tag Tryz.prog 15 = some none := by kernel_rfl
theorem zc15 : tzc Tryz.prog 15 = some [(.ptr none)] := by kernel_rfl
theorem sr15 : tsrc Tryz.prog 15 = true := by kernel_rfl
theorem ni15 : tni Tryz.prog 15 = true := by kernel_rfl
theorem ta15 : tas Tryz.prog 15 = some (.ptr none) := by kernel_rfl
theorem sz16 : tsz Tryz.prog 16 = some 1 := by kernel_rfl
theorem ag16 : tag Tryz.prog 16 = some none := by kernel_rfl
theorem zc16 : tzc Tryz.prog 16 = some [(.ptr none)] := by kernel_rfl
theorem sr16 : tsrc Tryz.prog 16 = true := by kernel_rfl
theorem ni16 : tni Tryz.prog 16 = true := by kernel_rfl
theorem ta16 : tas Tryz.prog 16 = some (.ptr none) := by kernel_rfl
theorem sz17 : tsz Tryz.prog 17 = some 1 := by kernel_rfl
theorem ag17 : tag Tryz.prog 17 = some none := by kernel_rfl
theorem zc17 : tzc Tryz.prog 17 = some [(.ptr none)] := by kernel_rfl
theorem sr17 : tsrc Tryz.prog 17 = true := by kernel_rfl
theorem ni17 : tni Tryz.prog 17 = true := by kernel_rfl
theorem ta17 : tas Tryz.prog 17 = some (.ptr none) := by kernel_rfl
theorem sz18 : tsz Tryz.prog 18 = some 1 := by kernel_rfl
theorem ag18 : tag Tryz.prog 18 = some (some 1) := by kernel_rfl
theorem zc18 : tzc Tryz.prog 18 = some [(.ptr none)] := by kernel_rfl
theorem sr18 : tsrc Tryz.prog 18 = true := by kernel_rfl
theorem fd18_0 : tfd Tryz.prog 18 0 = some (0, 17) := by kernel_rfl
theorem fo18_0 : tfo Tryz.prog 18 0 = some 0 := by kernel_rfl
theorem pl18 : tpl Tryz.prog 18 = some [(0, 1)] := by kernel_rfl
theorem bd18 (ps : List (Nat × AV)) (K : AV → Prop) : aBuild Tryz.prog 18 ps K = aBld (tpl Tryz.prog 18) (tzc Tryz.prog 18) ps K := aBuild_eq (by rw [pl18]; rfl) ps K
theorem sz19 : tsz Tryz.prog 19 = some 1 := by kernel_rfl
theorem ag19 : tag Tryz.prog 19 = some (some 1) := by kernel_rfl
theorem zc19 : tzc Tryz.prog 19 = some [(.ptr none)] := by kernel_rfl
theorem sr19 : tsrc Tryz.prog 19 = true := by kernel_rfl
theorem fd19_0 : tfd Tryz.prog 19 0 = some (0, 17) := by kernel_rfl
theorem fo19_0 : tfo Tryz.prog 19 0 = some 0 := by kernel_rfl
theorem pl19 : tpl Tryz.prog 19 = some [(0, 1)] := by kernel_rfl
theorem bd19 (ps : List (Nat × AV)) (K : AV → Prop) : aBuild Tryz.prog 19 ps K = aBld (tpl Tryz.prog 19) (tzc Tryz.prog 19) ps K := aBuild_eq (by rw [pl19]; rfl) ps K
theorem ni19 : tni Tryz.prog 19 = true := by kernel_rfl
theorem ta19 : tas Tryz.prog 19 = some (.agg [(.ptr none)]) := by kernel_rfl
theorem sz20 : tsz Tryz.prog 20 = some 1 := by kernel_rfl
theorem ag20 : tag Tryz.prog 20 = some none := by kernel_rfl
theorem zc20 : tzc Tryz.prog 20 = some [.nilIface] := by kernel_rfl
theorem sr20 : tsrc Tryz.prog 20 = true := by kernel_rfl
theorem if20 : tifc Tryz.prog 20 = true := by kernel_rfl
theorem sz21 : tsz Tryz.prog 21 = some 1 := by kernel_rfl
theorem ag21 : tag Tryz.prog 21 = some none := by kernel_rfl
theorem zc21 : tzc Tryz.prog 21 = some [(.int .i32 0)] := by kernel_rfl
theorem sr21 : tsrc Tryz.prog 21 = false := by kernel_rfl
theorem sz22 : tsz Tryz.prog 22 = some 1 := by kernel_rfl
theorem ag22 : tag Tryz.prog 22 = some none := by kernel_rfl
theorem zc22 : tzc Tryz.prog 22 = some [(.sl [] .full)] := by kernel_rfl
theorem sr22 : tsrc Tryz.prog 22 = true := by kernel_rfl
theorem el22 : tel Tryz.prog 22 = some (none, 3) := by kernel_rfl
theorem cu22 : tcut Tryz.prog 22 = some (some 3) := by kernel_rfl
theorem ap22 : tap Tryz.prog 22 = some (3, 40) := by kernel_rfl
theorem bs22 : tbs Tryz.prog 22 = some 3 := by kernel_rfl
theorem ms22 : tms Tryz.prog 22 = some (3, 40, [(.int .i64 0), (.int .i64 0), (.sl [] .full)], 24) := by kernel_rfl
theorem mm22 (l c : AV) (h : AH) (K : AV → AH → Prop) : aMakeSlice Tryz.prog 22 l c h K = aMkT (tms Tryz.prog 22) l c h K := aMakeSlice_eq (by rw [ms22]; rfl) l c K
theorem mc22 (x : AV) (h : AH) (K : AV → AH → Prop) : aClear Tryz.prog 22 x h K = aClT (tms Tryz.prog 22) x h K := aClear_eq (by rw [ms22]; rfl) x K
theorem mb22 (n : Nat) (ps : List (Nat × AV)) (h : AH) (K : AV → AH → Prop) : aBuildSliceM Tryz.prog 22 n ps h K = aBsM (tms Tryz.prog 22) n ps h K := aBuildSliceM_eq (by rw [ms22]; rfl) n ps K
theorem ma22 (s x : AV) (h : AH) (K : AV → AH → Prop) : aAppendM Tryz.prog 22 22 s x h K = aApM (tms Tryz.prog 22) s x h K := aAppendM_eq sr22 (by rw [ms22]; rfl) s x K
theorem ae22_22 (s x : AV) (h : AH) (K : AV → AH → Prop) : aAppend Tryz.prog 22 22 s x h K = aAp (tap Tryz.prog 22) s x h K := aAppend_eq sr22 s x K
theorem ln22 : tlen Tryz.prog 22 = some .sl := by kernel_rfl
theorem sz23 : tsz Tryz.prog 23 = some 3 := by kernel_rfl
theorem ag23 : tag Tryz.prog 23 = some (some 3) := by kernel_rfl
theorem zc23 : tzc Tryz.prog 23 = some [(.int .i64 0), (.int .i64 0), (.sl [] .full)] := by kernel_rfl
theorem sr23 : tsrc Tryz.prog 23 = true := by kernel_rfl
theorem fd23_0 : tfd Tryz.prog 23 0 = some (0, 3) := by kernel_rfl
theorem fo23_0 : tfo Tryz.prog 23 0 = some 0 := by kernel_rfl
theorem fd23_1 : tfd Tryz.prog 23 1 = some (1, 3) := by kernel_rfl
theorem fo23_1 : tfo Tryz.prog 23 1 = some 1 := by kernel_rfl
theorem fd23_2 : tfd Tryz.prog 23 2 = some (2, 22) := by kernel_rfl
theorem fo23_2 : tfo Tryz.prog 23 2 = some 2 := by kernel_rfl
theorem pl23 : tpl Tryz.prog 23 = some [(0, 1), (1, 1), (2, 1)] := by kernel_rfl
theorem bd23 (ps : List (Nat × AV)) (K : AV → Prop) : aBuild Tryz.prog 23 ps K = aBld (tpl Tryz.prog 23) (tzc Tryz.prog 23) ps K := aBuild_eq (by rw [pl23]; rfl) ps K
theorem sz24 : tsz Tryz.prog 24 = some 3 := by kernel_rfl
theorem ag24 : tag Tryz.prog 24 = some (some 3) := by kernel_rfl
theorem zc24 : tzc Tryz.prog 24 = some [(.int .i64 0), (.int .i64 0), (.sl [] .full)] := by kernel_rfl
theorem sr24 : tsrc Tryz.prog 24 = true := by kernel_rfl
theorem fd24_0 : tfd Tryz.prog 24 0 = some (0, 3) := by kernel_rfl
theorem fo24_0 : tfo Tryz.prog 24 0 = some 0 := by kernel_rfl
theorem fd24_1 : tfd Tryz.prog 24 1 = some (1, 3) := by kernel_rfl
theorem fo24_1 : tfo Tryz.prog 24 1 = some 1 := by kernel_rfl
theorem fd24_2 : tfd Tryz.prog 24 2 = some (2, 22) := by kernel_rfl
theorem fo24_2 : tfo Tryz.prog 24 2 = some 2 := by kernel_rfl
theorem pl24 : tpl Tryz.prog 24 = some [(0, 1), (1, 1), (2, 1)] := by kernel_rfl
theorem bd24 (ps : List (Nat × AV)) (K : AV → Prop) : aBuild Tryz.prog 24 ps K = aBld (tpl Tryz.prog 24) (tzc Tryz.prog 24) ps K := aBuild_eq (by rw [pl24]; rfl) ps K
theorem ni24 : tni Tryz.prog 24 = true := by kernel_rfl
theorem ta24 : tas Tryz.prog 24 = some (.agg [(.int .i64 0), (.int .i64 0), (.sl [] .full)]) := by kernel_rfl
theorem sz25 : tsz Tryz.prog 25 = some 1 := by kernel_rfl
theorem ag25 : tag Tryz.prog 25 = some none := by kernel_rfl
theorem zc25 : tzc Tryz.prog 25 = some [.nilFunc] := by kernel_rfl
theorem sr25 : tsrc Tryz.prog 25 = true := by kernel_rfl
theorem sz26 : tsz Tryz.prog 26 = some 1 := by kernel_rfl
theorem ag26 : tag Tryz.prog 26 = some none := by kernel_rfl
theorem zc26 : tzc Tryz.prog 26 = some [.nilFunc] := by kernel_rfl
theorem sr26 : tsrc Tryz.prog 26 = true := by kernel_rfl
theorem sz27 : tsz Tryz.prog 27 = some 1 := by kernel_rfl
theorem ag27 : tag Tryz.prog 27 = some none := by kernel_rfl
theorem zc27 : tzc Tryz.prog 27 = some [(.sl [] .full)] := by kernel_rfl
theorem sr27 : tsrc Tryz.prog 27 = true := by kernel_rfl
theorem el27 : tel Tryz.prog 27 = some (none, 1) := by kernel_rfl
theorem cu27 : tcut Tryz.prog 27 = some (some 1) := by kernel_rfl
theorem ap27 : tap Tryz.prog 27 = some (1, 8) := by kernel_rfl
theorem bs27 : tbs Tryz.prog 27 = some 1 := by kernel_rfl
theorem ms27 : tms Tryz.prog 27 = some (1, 8, [(.int .i64 0)], 3) := by kernel_rfl
theorem mm27 (l c : AV) (h : AH) (K : AV → AH → Prop) : aMakeSlice Tryz.prog 27 l c h K = aMkT (tms Tryz.prog 27) l c h K := aMakeSlice_eq (by rw [ms27]; rfl) l c K
theorem mc27 (x : AV) (h : AH) (K : AV → AH → Prop) : aClear Tryz.prog 27 x h K = aClT (tms Tryz.prog 27) x h K := aClear_eq (by rw [ms27]; rfl) x K
theorem mb27 (n : Nat) (ps : List (Nat × AV)) (h : AH) (K : AV → AH → Prop) : aBuildSliceM Tryz.prog 27 n ps h K = aBsM (tms Tryz.prog 27) n ps h K := aBuildSliceM_eq (by rw [ms27]; rfl) n ps K
theorem ma27 (s x : AV) (h : AH) (K : AV → AH → Prop) : aAppendM Tryz.prog 27 27 s x h K = aApM (tms Tryz.prog 27) s x h K := aAppendM_eq sr27 (by rw [ms27]; rfl) s x K
theorem ae27_27 (s x : AV) (h : AH) (K : AV → AH → Prop) : aAppend Tryz.prog 27 27 s x h K = aAp (tap Tryz.prog 27) s x h K := aAppend_eq sr27 s x K
theorem ln27 : tlen Tryz.prog 27 = some .sl := by kernel_rfl
theorem sz28 : tsz Tryz.prog 28 = some 1 := by kernel_rfl
theorem ag28 : tag Tryz.prog 28 = some none := by kernel_rfl
theorem zc28 : tzc Tryz.prog 28 = some [(.int .i64 0)] := by kernel_rfl
theorem sr28 : tsrc Tryz.prog 28 = false := by kernel_rfl
theorem ni28 : tni Tryz.prog 28 = true := by kernel_rfl
theorem ta28 : tas Tryz.prog 28 = some (.int .i64 0) := by kernel_rfl
theorem sz30 : tsz Tryz.prog 30 = some 1 := by kernel_rfl
theorem ag30 : tag Tryz.prog 30 = some none := by kernel_rfl
theorem zc30 : tzc Tryz.prog 30 = some [.nilFunc] := by kernel_rfl
theorem sr30 : tsrc Tryz.prog 30 = true := by kernel_rfl
theorem sz31 : tsz Tryz.prog 31 = some 1 := by kernel_rfl
theorem ag31 : tag Tryz.prog 31 = some none := by kernel_rfl
theorem zc31 : tzc Tryz.prog 31 = some [.nilFunc] := by kernel_rfl
theorem sr31 : tsrc Tryz.prog 31 = true := by kernel_rfl
theorem sz32 : tsz Tryz.prog 32 = some 1 := by kernel_rfl
theorem ag32 : tag Tryz.prog 32 = some none := by kernel_rfl
theorem zc32 : tzc Tryz.prog 32 = some [.nilFunc] := by kernel_rfl
theorem sr32 : tsrc Tryz.prog 32 = true := by kernel_rfl
theorem sz33 : tsz Tryz.prog 33 = some 1 := by kernel_rfl
theorem ag33 : tag Tryz.prog 33 = some none := by kernel_rfl
theorem zc33 : tzc Tryz.prog 33 = some [(.sl [] .full)] := by kernel_rfl
theorem sr33 : tsrc Tryz.prog 33 = true := by kernel_rfl
theorem el33 : tel Tryz.prog 33 = some (none, 1) := by kernel_rfl
theorem cu33 : tcut Tryz.prog 33 = some (some 1) := by kernel_rfl
theorem ap33 : tap Tryz.prog 33 = some (1, 24) := by kernel_rfl
theorem bs33 : tbs Tryz.prog 33 = some 1 := by kernel_rfl
theorem ms33 : tms Tryz.prog 33 = some (1, 24, [(.sl [] .full)], 27) := by kernel_rfl
theorem mm33 (l c : AV) (h : AH) (K : AV → AH → Prop) : aMakeSlice Tryz.prog 33 l c h K = aMkT (tms Tryz.prog 33) l c h K := aMakeSlice_eq (by rw [ms33]; rfl) l c K
theorem mc33 (x : AV) (h : AH) (K : AV → AH → Prop) : aClear Tryz.prog 33 x h K = aClT (tms Tryz.prog 33) x h K := aClear_eq (by rw [ms33]; rfl) x K
theorem mb33 (n : Nat) (ps : List (Nat × AV)) (h : AH) (K : AV → AH → Prop) : aBuildSliceM Tryz.prog 33 n ps h K = aBsM (tms Tryz.prog 33) n ps h K := aBuildSliceM_eq (by rw [ms33]; rfl) n ps K
theorem ma33 (s x : AV) (h : AH) (K : AV → AH → Prop) : aAppendM Tryz.prog 33 33 s x h K = aApM (tms Tryz.prog 33) s x h K := aAppendM_eq sr33 (by rw [ms33]; rfl) s x K
theorem ae33_33 (s x : AV) (h : AH) (K : AV → AH → Prop) : aAppend Tryz.prog 33 33 s x h K = aAp (tap Tryz.prog 33) s x h K := aAppend_eq sr33 s x K
theorem ln33 : tlen Tryz.prog 33 = some .sl := by kernel_rfl
theorem sz34 : tsz Tryz.prog 34 = some 1 := by kernel_rfl
theorem ag34 : tag Tryz.prog 34 = some none := by kernel_rfl
theorem zc34 : tzc Tryz.prog 34 = some [.nilFunc] := by kernel_rfl
theorem sr34 : tsrc Tryz.prog 34 = true := by kernel_rfl
theorem sz36 : tsz Tryz.prog 36 = some 1 := by kernel_rfl
theorem ag36 : tag Tryz.prog 36 = some none := by kernel_rfl
theorem zc36 : tzc Tryz.prog 36 = some [.nilFunc] := by kernel_rfl
theorem sr36 : tsrc Tryz.prog 36 = true := by kernel_rfl
theorem sz37 : tsz Tryz.prog 37 = some 1 := by kernel_rfl
theorem ag37 : tag Tryz.prog 37 = some none := by kernel_rfl
theorem zc37 : tzc Tryz.prog 37 = some [.nilFunc] := by kernel_rfl
theorem sr37 : tsrc Tryz.prog 37 = true := by kernel_rfl
theorem sz38 : tsz Tryz.prog 38 = some 1 := by kernel_rfl
theorem ag38 : tag Tryz.prog 38 = some none := by kernel_rfl
theorem zc38 : tzc Tryz.prog 38 = some [.nilFunc] := by kernel_rfl
theorem sr38 : tsrc Tryz.prog 38 = true := by kernel_rfl
theorem sz39 : tsz Tryz.prog 39 = some 1 := by kernel_rfl
theorem ag39 : tag Tryz.prog 39 = some none := by kernel_rfl
theorem zc39 : tzc Tryz.prog 39 = some [.nilFunc] := by kernel_rfl
theorem sr39 : tsrc Tryz.prog 39 = true := by kernel_rfl
theorem sz40 : tsz Tryz.prog 40 = some 1 := by kernel_rfl
theorem ag40 : tag Tryz.prog 40 = some none := by kernel_rfl
theorem zc40 : tzc Tryz.prog 40 = some [.nilFunc] := by kernel_rfl
theorem sr40 : tsrc Tryz.prog 40 = true := by kernel_rfl
theorem sz41 : tsz Tryz.prog 41 = some 1 := by kernel_rfl
theorem ag41 : tag Tryz.prog 41 = some none := by kernel_rfl
theorem zc41 : tzc Tryz.prog 41 = some [.nilFunc] := by kernel_rfl
theorem sr41 : tsrc Tryz.prog 41 = true := by kernel_rfl
theorem sz42 : tsz Tryz.prog 42 = some 1 := by kernel_rfl
theorem ag42 : tag Tryz.prog 42 = some none := by kernel_rfl
theorem zc42 : tzc Tryz.prog 42 = some [.nilFunc] := by kernel_rfl
theorem sr42 : tsrc Tryz.prog 42 = true := by kernel_rfl
theorem sz43 : tsz Tryz.prog 43 = some 1 := by kernel_rfl
theorem ag43 : tag Tryz.prog 43 = some none := by kernel_rfl
theorem zc43 : tzc Tryz.prog 43 = some [.nilFunc] := by kernel_rfl
theorem sr43 : tsrc Tryz.prog 43 = true := by kernel_rfl
theorem sz44 : tsz Tryz.prog 44 = some 1 := by kernel_rfl
theorem ag44 : tag Tryz.prog 44 = some none := by kernel_rfl
theorem zc44 : tzc Tryz.prog 44 = some [(.ptr none)] := by kernel_rfl
theorem sr44 : tsrc Tryz.prog 44 = true := by kernel_rfl
theorem ni44 : tni Tryz.prog 44 = true := by kernel_rfl
theorem ta44 : tas Tryz.prog 44 = some (.ptr none) := by kernel_rfl
theorem sz45 : tsz Tryz.prog 45 = some 1 := by kernel_rfl
theorem ag45 : tag Tryz.prog 45 = some none := by kernel_rfl
theorem zc45 : tzc Tryz.prog 45 = some [.nilFunc] := by kernel_rfl
theorem sr45 : tsrc Tryz.prog 45 = true := by kernel_rfl
theorem sz46 : tsz Tryz.prog 46 = some 1 := by kernel_rfl
theorem ag46 : tag Tryz.prog 46 = some none := by kernel_rfl
theorem zc46 : tzc Tryz.prog 46 = some [.nilFunc] := by kernel_rfl
theorem sr46 : tsrc Tryz.prog 46 = true := by kernel_rfl
theorem sz48 : tsz Tryz.prog 48 = some 1 := by kernel_rfl
theorem ag48 : tag Tryz.prog 48 = some none := by kernel_rfl
theorem zc48 : tzc Tryz.prog 48 = some [.nilFunc] := by kernel_rfl
theorem sr48 : tsrc Tryz.prog 48 = true := by kernel_rfl
theorem sz49 : tsz Tryz.prog 49 = some 1 := by kernel_rfl
theorem ag49 : tag Tryz.prog 49 = some none := by kernel_rfl
theorem zc49 : tzc Tryz.prog 49 = some [.nilFunc] := by kernel_rfl
theorem sr49 : tsrc Tryz.prog 49 = true := by kernel_rfl
theorem sz50 : tsz Tryz.prog 50 = some 1 := by kernel_rfl
theorem ag50 : tag Tryz.prog 50 = some none := by kernel_rfl
theorem zc50 : tzc Tryz.prog 50 = some [.nilFunc] := by kernel_rfl
theorem sr50 : tsrc Tryz.prog 50 = true := by kernel_rfl
theorem sz51 : tsz Tryz.prog 51 = some 1 := by kernel_rfl
theorem ag51 : tag Tryz.prog 51 = some none := by kernel_rfl
theorem zc51 : tzc Tryz.prog 51 = some [.nilFunc] := by kernel_rfl
theorem sr51 : tsrc Tryz.prog 51 = true := by kernel_rfl
theorem sz52 : tsz Tryz.prog 52 = some 1 := by kernel_rfl
theorem ag52 : tag Tryz.prog 52 = some none := by kernel_rfl
theorem zc52 : tzc Tryz.prog 52 = some [.nilFunc] := by kernel_rfl
theorem sr52 : tsrc Tryz.prog 52 = true := by kernel_rfl
theorem sz53 : tsz Tryz.prog 53 = some 1 := by kernel_rfl
theorem ag53 : tag Tryz.prog 53 = some none := by kernel_rfl
theorem zc53 : tzc Tryz.prog 53 = some [.nilFunc] := by kernel_rfl
theorem sr53 : tsrc Tryz.prog 53 = true := by kernel_rfl
theorem sz54 : tsz Tryz.prog 54 = some 1 := by kernel_rfl
theorem ag54 : tag Tryz.prog 54 = some none := by kernel_rfl
theorem zc54 : tzc Tryz.prog 54 = some [.nilFunc] := by kernel_rfl
theorem sr54 : tsrc Tryz.prog 54 = true := by kernel_rfl
theorem sz55 : tsz Tryz.prog 55 = some 1 := by kernel_rfl
theorem ag55 : tag Tryz.prog 55 = some none := by kernel_rfl
theorem zc55 : tzc Tryz.prog 55 = some [.nilFunc] := by kernel_rfl
theorem sr55 : tsrc Tryz.prog 55 = true := by kernel_rfl
theorem sz56 : tsz Tryz.prog 56 = some 1 := by kernel_rfl
theorem ag56 : tag Tryz.prog 56 = some none := by kernel_rfl
theorem zc56 : tzc Tryz.prog 56 = some [.nilFunc] := by kernel_rfl
theorem sr56 : tsrc Tryz.prog 56 = true := by kernel_rfl
theorem sz57 : tsz Tryz.prog 57 = some 1 := by kernel_rfl
theorem ag57 : tag Tryz.prog 57 = some none := by kernel_rfl
theorem zc57 : tzc Tryz.prog 57 = some [.nilFunc] := by kernel_rfl
theorem sr57 : tsrc Tryz.prog 57 = true := by kernel_rfl
theorem sz58 : tsz Tryz.prog 58 = some 1 := by kernel_rfl
theorem ag58 : tag Tryz.prog 58 = some none := by kernel_rfl
theorem zc58 : tzc Tryz.prog 58 = some [.nilFunc] := by kernel_rfl
theorem sr58 : tsrc Tryz.prog 58 = true := by kernel_rfl
theorem sz59 : tsz Tryz.prog 59 = some 1 := by kernel_rfl
theorem ag59 : tag Tryz.prog 59 = some none := by kernel_rfl
theorem zc59 : tzc Tryz.prog 59 = some [.nilFunc] := by kernel_rfl
theorem sr59 : tsrc Tryz.prog 59 = true := by kernel_rfl
theorem sz60 : tsz Tryz.prog 60 = some 1 := by kernel_rfl
theorem ag60 : tag Tryz.prog 60 = some none := by kernel_rfl
theorem zc60 : tzc Tryz.prog 60 = some [.nilFunc] := by kernel_rfl
theorem sr60 : tsrc Tryz.prog 60 = true := by kernel_rfl
theorem sz61 : tsz Tryz.prog 61 = some 1 := by kernel_rfl
theorem ag61 : tag Tryz.prog 61 = some none := by kernel_rfl
theorem zc61 : tzc Tryz.prog 61 = some [.nilFunc] := by kernel_rfl
theorem sr61 : tsrc Tryz.prog 61 = true := by kernel_rfl
theorem sz63 : tsz Tryz.prog 63 = some 1 := by kernel_rfl
theorem ag63 : tag Tryz.prog 63 = some none := by kernel_rfl
theorem zc63 : tzc Tryz.prog 63 = some [(.int .u64 0)] := by kernel_rfl
theorem sr63 : tsrc Tryz.prog 63 = false := by kernel_rfl
theorem sz64 : tsz Tryz.prog 64 = some 1 := by kernel_rfl
theorem ag64 : tag Tryz.prog 64 = some none := by kernel_rfl
theorem zc64 : tzc Tryz.prog 64 = some [(.int .u64 0)] := by kernel_rfl
theorem sr64 : tsrc Tryz.prog 64 = false := by kernel_rfl
theorem ni64 : tni Tryz.prog 64 = true := by kernel_rfl
theorem ta64 : tas Tryz.prog 64 = some (.int .u64 0) := by kernel_rfl
theorem sz65 : tsz Tryz.prog 65 = some 1 := by kernel_rfl
theorem ag65 : tag Tryz.prog 65 = some none := by kernel_rfl
theorem zc65 : tzc Tryz.prog 65 = some [.nilFunc] := by kernel_rfl
theorem sr65 : tsrc Tryz.prog 65 = true := by kernel_rfl
theorem sz66 : tsz Tryz.prog 66 = some 3 := by kernel_rfl
theorem ag66 : tag Tryz.prog 66 = some (some 3) := by kernel_rfl
theorem zc66 : tzc Tryz.prog 66 = some [(.sl [] .full), (.int .u64 0), .nilFunc] := by kernel_rfl
theorem sr66 : tsrc Tryz.prog 66 = true := by kernel_rfl
theorem fd66_0 : tfd Tryz.prog 66 0 = some (0, 27) := by kernel_rfl
theorem fo66_0 : tfo Tryz.prog 66 0 = some 0 := by kernel_rfl
theorem fd66_1 : tfd Tryz.prog 66 1 = some (1, 64) := by kernel_rfl
theorem fo66_1 : tfo Tryz.prog 66 1 = some 1 := by kernel_rfl
theorem fd66_2 : tfd Tryz.prog 66 2 = some (2, 65) := by kernel_rfl
theorem fo66_2 : tfo Tryz.prog 66 2 = some 2 := by kernel_rfl
theorem pl66 : tpl Tryz.prog 66 = some [(0, 1), (1, 1), (2, 1)] := by kernel_rfl
theorem bd66 (ps : List (Nat × AV)) (K : AV → Prop) : aBuild Tryz.prog 66 ps K = aBld (tpl Tryz.prog 66) (tzc Tryz.prog 66) ps K := aBuild_eq (by rw [pl66]; rfl) ps K
theorem sz67 : tsz Tryz.prog 67 = some 3 := by kernel_rfl
theorem ag67 : tag Tryz.prog 67 = some (some 3) := by kernel_rfl
theorem zc67 : tzc Tryz.prog 67 = some [(.sl [] .full), (.int .u64 0), .nilFunc] := by kernel_rfl
theorem sr67 : tsrc Tryz.prog 67 = true := by kernel_rfl
theorem fd67_0 : tfd Tryz.prog 67 0 = some (0, 27) := by kernel_rfl
theorem fo67_0 : tfo Tryz.prog 67 0 = some 0 := by kernel_rfl
theorem fd67_1 : tfd Tryz.prog 67 1 = some (1, 64) := by kernel_rfl
theorem fo67_1 : tfo Tryz.prog 67 1 = some 1 := by kernel_rfl
theorem fd67_2 : tfd Tryz.prog 67 2 = some (2, 65) := by kernel_rfl
theorem fo67_2 : tfo Tryz.prog 67 2 = some 2 := by kernel_rfl
theorem pl67 : tpl Tryz.prog 67 = some [(0, 1), (1, 1), (2, 1)] := by kernel_rfl
theorem bd67 (ps : List (Nat × AV)) (K : AV → Prop) : aBuild Tryz.prog 67 ps K = aBld (tpl Tryz.prog 67) (tzc Tryz.prog 67) ps K := aBuild_eq (by rw [pl67]; rfl) ps K
theorem ni67 : tni Tryz.prog 67 = true := by kernel_rfl
theorem ta67 : tas Tryz.prog 67 = some (.agg [(.sl [] .full), (.int .u64 0), .nilFunc]) := by kernel_rfl
theorem sz69 : tsz Tryz.prog 69 = some 1 := by kernel_rfl
theorem ag69 : tag Tryz.prog 69 = some none := by kernel_rfl
theorem zc69 : tzc Tryz.prog 69 = some [.nilFunc] := by kernel_rfl
theorem sr69 : tsrc Tryz.prog 69 = true := by kernel_rfl
theorem sz70 : tsz Tryz.prog 70 = some 1 := by kernel_rfl
theorem ag70 : tag Tryz.prog 70 = some none := by kernel_rfl
theorem zc70 : tzc Tryz.prog 70 = some [.nilFunc] := by kernel_rfl
theorem sr70 : tsrc Tryz.prog 70 = true := by kernel_rfl
theorem sz71 : tsz Tryz.prog 71 = some 1 := by kernel_rfl
theorem ag71 : tag Tryz.prog 71 = some none := by kernel_rfl
theorem zc71 : tzc Tryz.prog 71 = some [(.map none)] := by kernel_rfl
theorem sr71 : tsrc Tryz.prog 71 = true := by kernel_rfl
theorem ln71 : tlen Tryz.prog 71 = some .map := by kernel_rfl
theorem mk71 : tmk Tryz.prog 71 = some (true, (.int .i64 0)) := by kernel_rfl
theorem sz72 : tsz Tryz.prog 72 = some 1 := by kernel_rfl
theorem ag72 : tag Tryz.prog 72 = some none := by kernel_rfl
theorem zc72 : tzc Tryz.prog 72 = some [.nilFunc] := by kernel_rfl
theorem sr72 : tsrc Tryz.prog 72 = true := by kernel_rfl
theorem sz73 : tsz Tryz.prog 73 = some 1 := by kernel_rfl
theorem ag73 : tag Tryz.prog 73 = some none := by kernel_rfl
theorem zc73 : tzc Tryz.prog 73 = some [.nilFunc] := by kernel_rfl
theorem sr73 : tsrc Tryz.prog 73 = true := by kernel_rfl
theorem sz74 : tsz Tryz.prog 74 = some 1 := by kernel_rfl
theorem ag74 : tag Tryz.prog 74 = some none := by kernel_rfl
theorem zc74 : tzc Tryz.prog 74 = some [.nilFunc] := by kernel_rfl
theorem sr74 : tsrc Tryz.prog 74 = true := by kernel_rfl
theorem sz75 : tsz Tryz.prog 75 = some 1 := by kernel_rfl
theorem ag75 : tag Tryz.prog 75 = some none := by kernel_rfl
theorem zc75 : tzc Tryz.prog 75 = some [.nilFunc] := by kernel_rfl
theorem sr75 : tsrc Tryz.prog 75 = true := by kernel_rfl
theorem sz76 : tsz Tryz.prog 76 = some 1 := by kernel_rfl
theorem ag76 : tag Tryz.prog 76 = some none := by kernel_rfl
theorem zc76 : tzc Tryz.prog 76 = some [(.map none)] := by kernel_rfl
theorem sr76 : tsrc Tryz.prog 76 = true := by kernel_rfl
theorem ln76 : tlen Tryz.prog 76 = some .map := by kernel_rfl
theorem mk76 : tmk Tryz.prog 76 = some (true, (.bool false)) := by kernel_rfl
theorem sz77 : tsz Tryz.prog 77 = some 1 := by kernel_rfl
theorem ag77 : tag Tryz.prog 77 = some none := by kernel_rfl
theorem zc77 : tzc Tryz.prog 77 = some [.nilFunc] := by kernel_rfl
theorem sr77 : tsrc Tryz.prog 77 = true := by kernel_rfl
theorem sz78 : tsz Tryz.prog 78 = some 1 := by kernel_rfl
theorem ag78 : tag Tryz.prog 78 = some none := by kernel_rfl
theorem zc78 : tzc Tryz.prog 78 = some [.nilFunc] := by kernel_rfl
theorem sr78 : tsrc Tryz.prog 78 = true := by kernel_rfl
theorem sz79 : tsz Tryz.prog 79 = some 1 := by kernel_rfl
theorem ag79 : tag Tryz.prog 79 = some none := by kernel_rfl
theorem zc79 : tzc Tryz.prog 79 = some [.nilFunc] := by kernel_rfl
theorem sr79 : tsrc Tryz.prog 79 = true := by kernel_rfl
theorem sz80 : tsz Tryz.prog 80 = some 1 := by kernel_rfl
theorem ag80 : tag Tryz.prog 80 = some none := by kernel_rfl
theorem zc80 : tzc Tryz.prog 80 = some [.nilFunc] := by kernel_rfl
theorem sr80 : tsrc Tryz.prog 80 = true := by kernel_rfl
theorem sz81 : tsz Tryz.prog 81 = some 1 := by kernel_rfl
theorem ag81 : tag Tryz.prog 81 = some none := by kernel_rfl
theorem zc81 : tzc Tryz.prog 81 = some [.nilFunc] := by kernel_rfl
theorem sr81 : tsrc Tryz.prog 81 = true := by kernel_rfl
theorem sz82 : tsz Tryz.prog 82 = some 1 := by kernel_rfl
theorem ag82 : tag Tryz.prog 82 = some none := by kernel_rfl
theorem zc82 : tzc Tryz.prog 82 = some [.nilFunc] := by kernel_rfl
theorem sr82 : tsrc Tryz.prog 82 = true := by kernel_rfl
theorem sz83 : tsz Tryz.prog 83 = some 1 := by kernel_rfl
theorem ag83 : tag Tryz.prog 83 = some none := by kernel_rfl
theorem zc83 : tzc Tryz.prog 83 = some [(.sl [] .full)] := by kernel_rfl
theorem sr83 : tsrc Tryz.prog 83 = true := by kernel_rfl
theorem el83 : tel Tryz.prog 83 = some (none, 1) := by kernel_rfl
theorem cu83 : tcut Tryz.prog 83 = some (some 1) := by kernel_rfl
theorem ap83 : tap Tryz.prog 83 = some (1, 1) := by kernel_rfl
theorem bs83 : tbs Tryz.prog 83 = some 1 := by kernel_rfl
theorem ms83 : tms Tryz.prog 83 = some (1, 1, [(.bool false)], 4) := by kernel_rfl
theorem mm83 (l c : AV) (h : AH) (K : AV → AH → Prop) : aMakeSlice Tryz.prog 83 l c h K = aMkT (tms Tryz.prog 83) l c h K := aMakeSlice_eq (by rw [ms83]; rfl) l c K
theorem mc83 (x : AV) (h : AH) (K : AV → AH → Prop) : aClear Tryz.prog 83 x h K = aClT (tms Tryz.prog 83) x h K := aClear_eq (by rw [ms83]; rfl) x K
theorem mb83 (n : Nat) (ps : List (Nat × AV)) (h : AH) (K : AV → AH → Prop) : aBuildSliceM Tryz.prog 83 n ps h K = aBsM (tms Tryz.prog 83) n ps h K := aBuildSliceM_eq (by rw [ms83]; rfl) n ps K
theorem ma83 (s x : AV) (h : AH) (K : AV → AH → Prop) : aAppendM Tryz.prog 83 83 s x h K = aApM (tms Tryz.prog 83) s x h K := aAppendM_eq sr83 (by rw [ms83]; rfl) s x K
theorem ae83_83 (s x : AV) (h : AH) (K : AV → AH → Prop) : aAppend Tryz.prog 83 83 s x h K = aAp (tap Tryz.prog 83) s x h K := aAppend_eq sr83 s x K
theorem ln83 : tlen Tryz.prog 83 = some .sl := by kernel_rfl
theorem sz84 : tsz Tryz.prog 84 = some 1 := by kernel_rfl
theorem ag84 : tag Tryz.prog 84 = some none := by kernel_rfl
theorem zc84 : tzc Tryz.prog 84 = some [.nilFunc] := by kernel_rfl
theorem sr84 : tsrc Tryz.prog 84 = true := by kernel_rfl
theorem sz85 : tsz Tryz.prog 85 = some 1 := by kernel_rfl
theorem ag85 : tag Tryz.prog 85 = some none := by kernel_rfl
theorem zc85 : tzc Tryz.prog 85 = some [.nilFunc] := by kernel_rfl
theorem sr85 : tsrc Tryz.prog 85 = true := by kernel_rfl
theorem sz86 : tsz Tryz.prog 86 = some 1 := by kernel_rfl
theorem ag86 : tag Tryz.prog 86 = some none := by kernel_rfl
theorem zc86 : tzc Tryz.prog 86 = some [.nilFunc] := by kernel_rfl
theorem sr86 : tsrc Tryz.prog 86 = true := by kernel_rfl
theorem sz87 : tsz Tryz.prog 87 = some 1 := by kernel_rfl
theorem ag87 : tag Tryz.prog 87 = some none := by kernel_rfl
theorem zc87 : tzc Tryz.prog 87 = some [.nilFunc] := by kernel_rfl
theorem sr87 : tsrc Tryz.prog 87 = true := by kernel_rfl
theorem sz88 : tsz Tryz.prog 88 = some 1 := by kernel_rfl
theorem ag88 : tag Tryz.prog 88 = some none := by kernel_rfl
theorem zc88 : tzc Tryz.prog 88 = some [.nilFunc] := by kernel_rfl
theorem sr88 : tsrc Tryz.prog 88 = true := by kernel_rfl
theorem sz89 : tsz Tryz.prog 89 = some 1 := by kernel_rfl
theorem ag89 : tag Tryz.prog 89 = some none := by kernel_rfl
theorem zc89 : tzc Tryz.prog 89 = some [.nilFunc] := by kernel_rfl
theorem sr89 : tsrc Tryz.prog 89 = true := by kernel_rfl
theorem sz90 : tsz Tryz.prog 90 = some 1 := by kernel_rfl
theorem ag90 : tag Tryz.prog 90 = some none := by kernel_rfl
theorem zc90 : tzc Tryz.prog 90 = some [.nilFunc] := by kernel_rfl
theorem sr90 : tsrc Tryz.prog 90 = true := by kernel_rfl
theorem sz91 : tsz Tryz.prog 91 = some 1 := by kernel_rfl
theorem ag91 : tag Tryz.prog 91 = some none := by kernel_rfl
theorem zc91 : tzc Tryz.prog 91 = some [.nilFunc] := by kernel_rfl
theorem sr91 : tsrc Tryz.prog 91 = true := by kernel_rfl
theorem sz92 : tsz Tryz.prog 92 = some 1 := by kernel_rfl
theorem ag92 : tag Tryz.prog 92 = some none := by kernel_rfl
theorem zc92 : tzc Tryz.prog 92 = some [.nilFunc] := by kernel_rfl
theorem sr92 : tsrc Tryz.prog 92 = true := by kernel_rfl
theorem sz93 : tsz Tryz.prog 93 = some 1 := by kernel_rfl
theorem ag93 : tag Tryz.prog 93 = some none := by kernel_rfl
theorem zc93 : tzc Tryz.prog 93 = some [.nilFunc] := by kernel_rfl
theorem sr93 : tsrc Tryz.prog 93 = true := by kernel_rfl
theorem sz94 : tsz Tryz.prog 94 = some 1 := by kernel_rfl
theorem ag94 : tag Tryz.prog 94 = some none := by kernel_rfl
theorem zc94 : tzc Tryz.prog 94 = some [.nilFunc] := by kernel_rfl
theorem sr94 : tsrc Tryz.prog 94 = true := by kernel_rfl
theorem sz95 : tsz Tryz.prog 95 = some 1 := by kernel_rfl
theorem ag95 : tag Tryz.prog 95 = some none := by kernel_rfl
theorem zc95 : tzc Tryz.prog 95 = some [.nilFunc] := by kernel_rfl
theorem sr95 : tsrc Tryz.prog 95 = true := by kernel_rfl
theorem sz96 : tsz Tryz.prog 96 = some 1 := by kernel_rfl
theorem ag96 : tag Tryz.prog 96 = some none := by kernel_rfl
theorem zc96 : tzc Tryz.prog 96 = some [.nilFunc] := by kernel_rfl
theorem sr96 : tsrc Tryz.prog 96 = true := by kernel_rfl
theorem sz97 : tsz Tryz.prog 97 = some 1 := by kernel_rfl
theorem ag97 : tag Tryz.prog 97 = some none := by kernel_rfl
theorem zc97 : tzc Tryz.prog 97 = some [.nilFunc] := by kernel_rfl
theorem sr97 : tsrc Tryz.prog 97 = true := by kernel_rfl
theorem sz98 : tsz Tryz.prog 98 = some 1 := by kernel_rfl
theorem ag98 : tag Tryz.prog 98 = some none := by kernel_rfl
theorem zc98 : tzc Tryz.prog 98 = some [.nilFunc] := by kernel_rfl
theorem sr98 : tsrc Tryz.prog 98 = true := by kernel_rfl
theorem sz99 : tsz Tryz.prog 99 = some 1 := by kernel_rfl
theorem ag99 : tag Tryz.prog 99 = some none := by kernel_rfl
theorem zc99 : tzc Tryz.prog 99 = some [.nilFunc] := by kernel_rfl
theorem sr99 : tsrc Tryz.prog 99 = true := by kernel_rfl
theorem sz100 : tsz Tryz.prog 100 = some 1 := by kernel_rfl
theorem ag100 : tag Tryz.prog 100 = some none := by kernel_rfl
theorem zc100 : tzc Tryz.prog 100 = some [.nilFunc] := by kernel_rfl
theorem sr100 : tsrc Tryz.prog 100 = true := by kernel_rfl
theorem sz101 : tsz Tryz.prog 101 = some 1 := by kernel_rfl
theorem ag101 : tag Tryz.prog 101 = some none := by kernel_rfl
theorem zc101 : tzc Tryz.prog 101 = some [(.int .i64 0)] := by kernel_rfl
theorem sr101 : tsrc Tryz.prog 101 = false := by kernel_rfl
theorem ni101 : tni Tryz.prog 101 = true := by kernel_rfl
theorem ta101 : tas Tryz.prog 101 = some (.int .i64 0) := by kernel_rfl
theorem sz103 : tsz Tryz.prog 103 = some 1 := by kernel_rfl
theorem ag103 : tag Tryz.prog 103 = some none := by kernel_rfl
theorem zc103 : tzc Tryz.prog 103 = some [.nilFunc] := by kernel_rfl
theorem sr103 : tsrc Tryz.prog 103 = true := by kernel_rfl
theorem sz104 : tsz Tryz.prog 104 = some 1 := by kernel_rfl
theorem ag104 : tag Tryz.prog 104 = some none := by kernel_rfl
theorem zc104 : tzc Tryz.prog 104 = some [.nilFunc] := by kernel_rfl
theorem sr104 : tsrc Tryz.prog 104 = true := by kernel_rfl
theorem sz105 : tsz Tryz.prog 105 = some 1 := by kernel_rfl
theorem ag105 : tag Tryz.prog 105 = some none := by kernel_rfl
theorem zc105 : tzc Tryz.prog 105 = some [.nilFunc] := by kernel_rfl
theorem sr105 : tsrc Tryz.prog 105 = true := by kernel_rfl
theorem sz107 : tsz Tryz.prog 107 = some 1 := by kernel_rfl
theorem ag107 : tag Tryz.prog 107 = some none := by kernel_rfl
theorem zc107 : tzc Tryz.prog 107 = some [.nilFunc] := by kernel_rfl
theorem sr107 : tsrc Tryz.prog 107 = true := by kernel_rfl
theorem sz108 : tsz Tryz.prog 108 = some 1 := by kernel_rfl
theorem ag108 : tag Tryz.prog 108 = some none := by kernel_rfl
theorem zc108 : tzc Tryz.prog 108 = some [.nilFunc] := by kernel_rfl
theorem sr108 : tsrc Tryz.prog 108 = true := by kernel_rfl
theorem sz109 : tsz Tryz.prog 109 = some 1 := by kernel_rfl
theorem ag109 : tag Tryz.prog 109 = some none := by kernel_rfl
theorem zc109 : tzc Tryz.prog 109 = some [(.int .u32 0)] := by kernel_rfl
theorem sr109 : tsrc Tryz.prog 109 = false := by kernel_rfl
theorem sz110 : tsz Tryz.prog 110 = some 1 := by kernel_rfl
theorem ag110 : tag Tryz.prog 110 = some none := by kernel_rfl
theorem zc110 : tzc Tryz.prog 110 = some [.nilFunc] := by kernel_rfl
theorem sr110 : tsrc Tryz.prog 110 = true := by kernel_rfl
theorem sz111 : tsz Tryz.prog 111 = some 1 := by kernel_rfl
theorem ag111 : tag Tryz.prog 111 = some none := by kernel_rfl
theorem zc111 : tzc Tryz.prog 111 = some [(.int .u64 0)] := by kernel_rfl
theorem sr111 : tsrc Tryz.prog 111 = false := by kernel_rfl
theorem sz112 : tsz Tryz.prog 112 = some 1 := by kernel_rfl
theorem ag112 : tag Tryz.prog 112 = some none := by kernel_rfl
theorem zc112 : tzc Tryz.prog 112 = some [.nilFunc] := by kernel_rfl
theorem sr112 : tsrc Tryz.prog 112 = true := by kernel_rfl
theorem sz113 : tsz Tryz.prog 113 = some 1 := by kernel_rfl
theorem ag113 : tag Tryz.prog 113 = some none := by kernel_rfl
theorem zc113 : tzc Tryz.prog 113 = some [.nilFunc] := by kernel_rfl
theorem sr113 : tsrc Tryz.prog 113 = true := by kernel_rfl
theorem sz114 : tsz Tryz.prog 114 = some 1 := by kernel_rfl
theorem ag114 : tag Tryz.prog 114 = some none := by kernel_rfl
theorem zc114 : tzc Tryz.prog 114 = some [.nilFunc] := by kernel_rfl
theorem sr114 : tsrc Tryz.prog 114 = true := by kernel_rfl
theorem sz115 : tsz Tryz.prog 115 = some 1 := by kernel_rfl
theorem ag115 : tag Tryz.prog 115 = some none := by kernel_rfl
theorem zc115 : tzc Tryz.prog 115 = some [.nilFunc] := by kernel_rfl
theorem sr115 : tsrc Tryz.prog 115 = true := by kernel_rfl
theorem sz116 : tsz Tryz.prog 116 = some 1 := by kernel_rfl
theorem ag116 : tag Tryz.prog 116 = some none := by kernel_rfl
theorem zc116 : tzc Tryz.prog 116 = some [.nilFunc] := by kernel_rfl
theorem sr116 : tsrc Tryz.prog 116 = true := by kernel_rfl
theorem sz117 : tsz Tryz.prog 117 = some 1 := by kernel_rfl
theorem ag117 : tag Tryz.prog 117 = some none := by kernel_rfl
theorem zc117 : tzc Tryz.prog 117 = some [.nilFunc] := by kernel_rfl
theorem sr117 : tsrc Tryz.prog 117 = true := by kernel_rfl
theorem sz118 : tsz Tryz.prog 118 = some 1 := by kernel_rfl
theorem ag118 : tag Tryz.prog 118 = some none := by kernel_rfl
theorem zc118 : tzc Tryz.prog 118 = some [(.int .u64 0)] := by kernel_rfl
theorem sr118 : tsrc Tryz.prog 118 = false := by kernel_rfl
theorem ni118 : tni Tryz.prog 118 = true := by kernel_rfl
theorem ta118 : tas Tryz.prog 118 = some (.int .u64 0) := by kernel_rfl
theorem sz119 : tsz Tryz.prog 119 = some 1 := by kernel_rfl
theorem ag119 : tag Tryz.prog 119 = some none := by kernel_rfl
theorem zc119 : tzc Tryz.prog 119 = some [.nilFunc] := by kernel_rfl
theorem sr119 : tsrc Tryz.prog 119 = true := by kernel_rfl
theorem sz120 : tsz Tryz.prog 120 = some 1 := by kernel_rfl
theorem ag120 : tag Tryz.prog 120 = some none := by kernel_rfl
theorem zc120 : tzc Tryz.prog 120 = some [.nilFunc] := by kernel_rfl
theorem sr120 : tsrc Tryz.prog 120 = true := by kernel_rfl
theorem sz121 : tsz Tryz.prog 121 = some 1 := by kernel_rfl
theorem ag121 : tag Tryz.prog 121 = some none := by kernel_rfl
theorem zc121 : tzc Tryz.prog 121 = some [.nilFunc] := by kernel_rfl
theorem sr121 : tsrc Tryz.prog 121 = true := by kernel_rfl
theorem sz122 : tsz Tryz.prog 122 = some 1 := by kernel_rfl
theorem ag122 : tag Tryz.prog 122 = some none := by kernel_rfl
theorem zc122 : tzc Tryz.prog 122 = some [(.ptr none)] := by kernel_rfl
theorem sr122 : tsrc Tryz.prog 122 = true := by kernel_rfl
theorem ni122 : tni Tryz.prog 122 = true := by kernel_rfl
theorem ta122 : tas Tryz.prog 122 = some (.ptr none) := by kernel_rfl
theorem sz123 : tsz Tryz.prog 123 = some 1 := by kernel_rfl
theorem ag123 : tag Tryz.prog 123 = some none := by kernel_rfl
theorem zc123 : tzc Tryz.prog 123 = some [.nilFunc] := by kernel_rfl
theorem sr123 : tsrc Tryz.prog 123 = true := by kernel_rfl
theorem sz124 : tsz Tryz.prog 124 = some 1 := by kernel_rfl
theorem ag124 : tag Tryz.prog 124 = some none := by kernel_rfl
theorem zc124 : tzc Tryz.prog 124 = some [.nilFunc] := by kernel_rfl
theorem sr124 : tsrc Tryz.prog 124 = true := by kernel_rfl
theorem sz125 : tsz Tryz.prog 125 = some 1 := by kernel_rfl
theorem ag125 : tag Tryz.prog 125 = some none := by kernel_rfl
theorem zc125 : tzc Tryz.prog 125 = some [.nilFunc] := by kernel_rfl
theorem sr125 : tsrc Tryz.prog 125 = true := by kernel_rfl
theorem sz126 : tsz Tryz.prog 126 = some 1 := by kernel_rfl
theorem ag126 : tag Tryz.prog 126 = some none := by kernel_rfl
theorem zc126 : tzc Tryz.prog 126 = some [(.ptr none)] := by kernel_rfl
theorem sr126 : tsrc Tryz.prog 126 = true := by kernel_rfl
theorem ni126 : tni Tryz.prog 126 = true := by kernel_rfl
theorem ta126 : tas Tryz.prog 126 = some (.ptr none) := by kernel_rfl
theorem sz128 : tsz Tryz.prog 128 = some 1 := by kernel_rfl
theorem ag128 : tag Tryz.prog 128 = some none := by kernel_rfl
theorem zc128 : tzc Tryz.prog 128 = some [.nilFunc] := by kernel_rfl
theorem sr128 : tsrc Tryz.prog 128 = true := by kernel_rfl
theorem sz129 : tsz Tryz.prog 129 = some 1 := by kernel_rfl
theorem ag129 : tag Tryz.prog 129 = some none := by kernel_rfl
theorem zc129 : tzc Tryz.prog 129 = some [.nilFunc] := by kernel_rfl
theorem sr129 : tsrc Tryz.prog 129 = true := by kernel_rfl
theorem sz130 : tsz Tryz.prog 130 = some 1 := by kernel_rfl
theorem ag130 : tag Tryz.prog 130 = some none := by kernel_rfl
theorem zc130 : tzc Tryz.prog 130 = some [.nilFunc] := by kernel_rfl
theorem sr130 : tsrc Tryz.prog 130 = true := by kernel_rfl
theorem sz131 : tsz Tryz.prog 131 = some 4 := by kernel_rfl
theorem ag131 : tag Tryz.prog 131 = some (some 4) := by kernel_rfl
theorem zc131 : tzc Tryz.prog 131 = some [(.ptr none), (.ptr none), (.ptr none), (.str ⟨#[]⟩)] := by kernel_rfl
theorem sr131 : tsrc Tryz.prog 131 = true := by kernel_rfl
theorem fd131_0 : tfd Tryz.prog 131 0 = some (0, 17) := by kernel_rfl
theorem fo131_0 : tfo Tryz.prog 131 0 = some 0 := by kernel_rfl
theorem fd131_1 : tfd Tryz.prog 131 1 = some (1, 17) := by kernel_rfl
theorem fo131_1 : tfo Tryz.prog 131 1 = some 1 := by kernel_rfl
theorem fd131_2 : tfd Tryz.prog 131 2 = some (2, 17) := by kernel_rfl
theorem fo131_2 : tfo Tryz.prog 131 2 = some 2 := by kernel_rfl
theorem fd131_3 : tfd Tryz.prog 131 3 = some (3, 9) := by kernel_rfl
theorem fo131_3 : tfo Tryz.prog 131 3 = some 3 := by kernel_rfl
theorem pl131 : tpl Tryz.prog 131 = some [(0, 1), (1, 1), (2, 1), (3, 1)] := by kernel_rfl
theorem bd131 (ps : List (Nat × AV)) (K : AV → Prop) : aBuild Tryz.prog 131 ps K = aBld (tpl Tryz.prog 131) (tzc Tryz.prog 131) ps K := aBuild_eq (by rw [pl131]; rfl) ps K
theorem sz132 : tsz Tryz.prog 132 = some 4 := by kernel_rfl
theorem ag132 : tag Tryz.prog 132 = some (some 4) := by kernel_rfl
theorem zc132 : tzc Tryz.prog 132 = some [(.ptr none), (.ptr none), (.ptr none), (.str ⟨#[]⟩)] := by kernel_rfl
theorem sr132 : tsrc Tryz.prog 132 = true := by kernel_rfl
theorem fd132_0 : tfd Tryz.prog 132 0 = some (0, 17) := by kernel_rfl
theorem fo132_0 : tfo Tryz.prog 132 0 = some 0 := by kernel_rfl
theorem fd132_1 : tfd Tryz.prog 132 1 = some (1, 17) := by kernel_rfl
theorem fo132_1 : tfo Tryz.prog 132 1 = some 1 := by kernel_rfl
theorem fd132_2 : tfd Tryz.prog 132 2 = some (2, 17) := by kernel_rfl
theorem fo132_2 : tfo Tryz.prog 132 2 = some 2 := by kernel_rfl
theorem fd132_3 : tfd Tryz.prog 132 3 = some (3, 9) := by kernel_rfl
theorem fo132_3 : tfo Tryz.prog 132 3 = some 3 := by kernel_rfl
theorem pl132 : tpl Tryz.prog 132 = some [(0, 1), (1, 1), (2, 1), (3, 1)] := by kernel_rfl
theorem bd132 (ps : List (Nat × AV)) (K : AV → Prop) : aBuild Tryz.prog 132 ps K = aBld (tpl Tryz.prog 132) (tzc Tryz.prog 132) ps K := aBuild_eq (by rw [pl132]; rfl) ps K
theorem ni132 : tni Tryz.prog 132 = true := by kernel_rfl
theorem ta132 : tas Tryz.prog 132 = some (.agg [(.ptr none), (.ptr none), (.ptr none), (.str ⟨#[]⟩)]) := by kernel_rfl
theorem sz133 : tsz Tryz.prog 133 = some 0 := by kernel_rfl
theorem ag133 : tag Tryz.prog 133 = some (some 0) := by kernel_rfl
theorem zc133 : tzc Tryz.prog 133 = some [] := by kernel_rfl
theorem sr133 : tsrc Tryz.prog 133 = true := by kernel_rfl
theorem es133 : teqS Tryz.prog 133 = none := by kernel_rfl
theorem el133 : tel Tryz.prog 133 = some (some 0, 1) := by kernel_rfl
theorem ln133 : tlen Tryz.prog 133 = some (.arr 0) := by kernel_rfl
theorem sz134 : tsz Tryz.prog 134 = some 0 := by kernel_rfl
theorem ag134 : tag Tryz.prog 134 = some (some 0) := by kernel_rfl
theorem zc134 : tzc Tryz.prog 134 = some [] := by kernel_rfl
theorem sr134 : tsrc Tryz.prog 134 = true := by kernel_rfl
theorem fd134_0 : tfd Tryz.prog 134 0 = some (0, 133) := by kernel_rfl
theorem pl134 : tpl Tryz.prog 134 = some [(0, 0)] := by kernel_rfl
theorem bd134 (ps : List (Nat × AV)) (K : AV → Prop) : aBuild Tryz.prog 134 ps K = aBld (tpl Tryz.prog 134) (tzc Tryz.prog 134) ps K := aBuild_eq (by rw [pl134]; rfl) ps K
theorem sz135 : tsz Tryz.prog 135 = some 0 := by kernel_rfl
theorem ag135 : tag Tryz.prog 135 = some (some 0) := by kernel_rfl
theorem zc135 : tzc Tryz.prog 135 = some [] := by kernel_rfl
theorem sr135 : tsrc Tryz.prog 135 = true := by kernel_rfl
theorem fd135_0 : tfd Tryz.prog 135 0 = some (0, 133) := by kernel_rfl
theorem pl135 : tpl Tryz.prog 135 = some [(0, 0)] := by kernel_rfl
theorem bd135 (ps : List (Nat × AV)) (K : AV → Prop) : aBuild Tryz.prog 135 ps K = aBld (tpl Tryz.prog 135) (tzc Tryz.prog 135) ps K := aBuild_eq (by rw [pl135]; rfl) ps K
theorem ni135 : tni Tryz.prog 135 = true := by kernel_rfl
theorem ta135 : tas Tryz.prog 135 = some (.agg []) := by kernel_rfl
theorem sz136 : tsz Tryz.prog 136 = some 1 := by kernel_rfl
theorem ag136 : tag Tryz.prog 136 = some none := by kernel_rfl
theorem zc136 : tzc Tryz.prog 136 = some [.nilFunc] := by kernel_rfl
theorem sr136 : tsrc Tryz.prog 136 = true := by kernel_rfl
theorem sz137 : tsz Tryz.prog 137 = some 1 := by kernel_rfl
theorem ag137 : tag Tryz.prog 137 = some none := by kernel_rfl
theorem zc137 : tzc Tryz.prog 137 = some [(.int .u8 0)] := by kernel_rfl
theorem sr137 : tsrc Tryz.prog 137 = false := by kernel_rfl
theorem ni137 : tni Tryz.prog 137 = true := by kernel_rfl
theorem ta137 : tas Tryz.prog 137 = some (.int .u8 0) := by kernel_rfl
theorem sz138 : tsz Tryz.prog 138 = some 1 := by kernel_rfl
theorem ag138 : tag Tryz.prog 138 = some none := by kernel_rfl
theorem zc138 : tzc Tryz.prog 138 = some [(.int .u8 0)] := by kernel_rfl
theorem sr138 : tsrc Tryz.prog 138 = false := by kernel_rfl
theorem ni138 : tni Tryz.prog 138 = true := by kernel_rfl
theorem ta138 : tas Tryz.prog 138 = some (.int .u8 0) := by kernel_rfl
theorem sz139 : tsz Tryz.prog 139 = some 1 := by kernel_rfl
theorem ag139 : tag Tryz.prog 139 = some none := by kernel_rfl
theorem zc139 : tzc Tryz.prog 139 = some [.nilFunc] := by kernel_rfl
theorem sr139 : tsrc Tryz.prog 139 = true := by kernel_rfl
theorem sz140 : tsz Tryz.prog 140 = some 1 := by kernel_rfl
theorem ag140 : tag Tryz.prog 140 = some none := by kernel_rfl
theorem zc140 : tzc Tryz.prog 140 = some [(.ptr none)] := by kernel_rfl
theorem sr140 : tsrc Tryz.prog 140 = true := by kernel_rfl
theorem ni140 : tni Tryz.prog 140 = true := by kernel_rfl
theorem ta140 : tas Tryz.prog 140 = some (.ptr none) := by kernel_rfl
theorem sz141 : tsz Tryz.prog 141 = some 1 := by kernel_rfl
theorem ag141 : tag Tryz.prog 141 = some none := by kernel_rfl
theorem zc141 : tzc Tryz.prog 141 = some [(.int .i32 0)] := by kernel_rfl
theorem sr141 : tsrc Tryz.prog 141 = false := by kernel_rfl
theorem ni141 : tni Tryz.prog 141 = true := by kernel_rfl
theorem ta141 : tas Tryz.prog 141 = some (.int .i32 0) := by kernel_rfl
theorem sz142 : tsz Tryz.prog 142 = some 1 := by kernel_rfl
theorem ag142 : tag Tryz.prog 142 = some none := by kernel_rfl
theorem zc142 : tzc Tryz.prog 142 = some [(.int .i32 0)] := by kernel_rfl
theorem sr142 : tsrc Tryz.prog 142 = false := by kernel_rfl
theorem ni142 : tni Tryz.prog 142 = true := by kernel_rfl
theorem ta142 : tas Tryz.prog 142 = some (.int .i32 0) := by kernel_rfl
theorem sz143 : tsz Tryz.prog 143 = some 11 := by kernel_rfl
theorem ag143 : tag Tryz.prog 143 = some (some 11) := by kernel_rfl
theorem zc143 : tzc Tryz.prog 143 = some [(.int .u64 0), (.int .u64 0), (.int .u32 0), (.int .u8 0), (.int .u8 0), (.int .u8 0), (.int .u8 0), .nilFunc, (.ptr none), (.int .i32 0), (.int .i32 0)] := by kernel_rfl
theorem sr143 : tsrc Tryz.prog 143 = true := by kernel_rfl
theorem fd143_0 : tfd Tryz.prog 143 0 = some (0, 12) := by kernel_rfl
theorem fo143_0 : tfo Tryz.prog 143 0 = some 0 := by kernel_rfl
theorem fd143_1 : tfd Tryz.prog 143 1 = some (1, 12) := by kernel_rfl
theorem fo143_1 : tfo Tryz.prog 143 1 = some 1 := by kernel_rfl
theorem fd143_2 : tfd Tryz.prog 143 2 = some (2, 109) := by kernel_rfl
theorem fo143_2 : tfo Tryz.prog 143 2 = some 2 := by kernel_rfl
theorem fd143_3 : tfd Tryz.prog 143 3 = some (3, 137) := by kernel_rfl
theorem fo143_3 : tfo Tryz.prog 143 3 = some 3 := by kernel_rfl
theorem fd143_4 : tfd Tryz.prog 143 4 = some (4, 5) := by kernel_rfl
theorem fo143_4 : tfo Tryz.prog 143 4 = some 4 := by kernel_rfl
theorem fd143_5 : tfd Tryz.prog 143 5 = some (5, 5) := by kernel_rfl
theorem fo143_5 : tfo Tryz.prog 143 5 = some 5 := by kernel_rfl
theorem fd143_6 : tfd Tryz.prog 143 6 = some (6, 138) := by kernel_rfl
theorem fo143_6 : tfo Tryz.prog 143 6 = some 6 := by kernel_rfl
theorem fd143_7 : tfd Tryz.prog 143 7 = some (7, 139) := by kernel_rfl
theorem fo143_7 : tfo Tryz.prog 143 7 = some 7 := by kernel_rfl
theorem fd143_8 : tfd Tryz.prog 143 8 = some (8, 140) := by kernel_rfl
theorem fo143_8 : tfo Tryz.prog 143 8 = some 8 := by kernel_rfl
theorem fd143_9 : tfd Tryz.prog 143 9 = some (9, 141) := by kernel_rfl
theorem fo143_9 : tfo Tryz.prog 143 9 = some 9 := by kernel_rfl
theorem fd143_10 : tfd Tryz.prog 143 10 = some (10, 142) := by kernel_rfl
theorem fo143_10 : tfo Tryz.prog 143 10 = some 10 := by kernel_rfl
theorem pl143 : tpl Tryz.prog 143 = some [(0, 1), (1, 1), (2, 1), (3, 1), (4, 1), (5, 1), (6, 1), (7, 1), (8, 1), (9, 1), (10, 1)] := by kernel_rfl
theorem bd143 (ps : List (Nat × AV)) (K : AV → Prop) : aBuild Tryz.prog 143 ps K = aBld (tpl Tryz.prog 143) (tzc Tryz.prog 143) ps K := aBuild_eq (by rw [pl143]; rfl) ps K
theorem sz144 : tsz Tryz.prog 144 = some 11 := by kernel_rfl
theorem ag144 : tag Tryz.prog 144 = some (some 11) := by kernel_rfl
theorem zc144 : tzc Tryz.prog 144 = some [(.int .u64 0), (.int .u64 0), (.int .u32 0), (.int .u8 0), (.int .u8 0), (.int .u8 0), (.int .u8 0), .nilFunc, (.ptr none), (.int .i32 0), (.int .i32 0)] := by kernel_rfl
theorem sr144 : tsrc Tryz.prog 144 = true := by kernel_rfl
theorem fd144_0 : tfd Tryz.prog 144 0 = some (0, 12) := by kernel_rfl
theorem fo144_0 : tfo Tryz.prog 144 0 = some 0 := by kernel_rfl
theorem fd144_1 : tfd Tryz.prog 144 1 = some (1, 12) := by kernel_rfl
theorem fo144_1 : tfo Tryz.prog 144 1 = some 1 := by kernel_rfl
theorem fd144_2 : tfd Tryz.prog 144 2 = some (2, 109) := by kernel_rfl
theorem fo144_2 : tfo Tryz.prog 144 2 = some 2 := by kernel_rfl
theorem fd144_3 : tfd Tryz.prog 144 3 = some (3, 137) := by kernel_rfl
theorem fo144_3 : tfo Tryz.prog 144 3 = some 3 := by kernel_rfl
theorem fd144_4 : tfd Tryz.prog 144 4 = some (4, 5) := by kernel_rfl
theorem fo144_4 : tfo Tryz.prog 144 4 = some 4 := by kernel_rfl
theorem fd144_5 : tfd Tryz.prog 144 5 = some (5, 5) := by kernel_rfl
theorem fo144_5 : tfo Tryz.prog 144 5 = some 5 := by kernel_rfl
theorem fd144_6 : tfd Tryz.prog 144 6 = some (6, 138) := by kernel_rfl
theorem fo144_6 : tfo Tryz.prog 144 6 = some 6 := by kernel_rfl
theorem fd144_7 : tfd Tryz.prog 144 7 = some (7, 139) := by kernel_rfl
theorem fo144_7 : tfo Tryz.prog 144 7 = some 7 := by kernel_rfl
theorem fd144_8 : tfd Tryz.prog 144 8 = some (8, 140) := by kernel_rfl
theorem fo144_8 : tfo Tryz.prog 144 8 = some 8 := by kernel_rfl
theorem fd144_9 : tfd Tryz.prog 144 9 = some (9, 141) := by kernel_rfl
theorem fo144_9 : tfo Tryz.prog 144 9 = some 9 := by kernel_rfl
theorem fd144_10 : tfd Tryz.prog 144 10 = some (10, 142) := by kernel_rfl
theorem fo144_10 : tfo Tryz.prog 144 10 = some 10 := by kernel_rfl
theorem pl144 : tpl Tryz.prog 144 = some [(0, 1), (1, 1), (2, 1), (3, 1), (4, 1), (5, 1), (6, 1), (7, 1), (8, 1), (9, 1), (10, 1)] := by kernel_rfl
theorem bd144 (ps : List (Nat × AV)) (K : AV → Prop) : aBuild Tryz.prog 144 ps K = aBld (tpl Tryz.prog 144) (tzc Tryz.prog 144) ps K := aBuild_eq (by rw [pl144]; rfl) ps K
theorem ni144 : tni Tryz.prog 144 = true := by kernel_rfl
theorem ta144 : tas Tryz.prog 144 = some (.agg [(.int .u64 0), (.int .u64 0), (.int .u32 0), (.int .u8 0), (.int .u8 0), (.int .u8 0), (.int .u8 0), .nilFunc, (.ptr none), (.int .i32 0), (.int .i32 0)]) := by kernel_rfl
theorem sz145 : tsz Tryz.prog 145 = some 1 := by kernel_rfl
theorem ag145 : tag Tryz.prog 145 = some none := by kernel_rfl
theorem zc145 : tzc Tryz.prog 145 = some [(.ptr none)] := by kernel_rfl
theorem sr145 : tsrc Tryz.prog 145 = true := by kernel_rfl
theorem mu71 : tmkey Tryz.prog 71 = some true := by kernel_rfl
theorem mu76 : tmkey Tryz.prog 76 = some true := by kernel_rfl
theorem mq71 : mks Tryz.prog 71 = none := by kernel_rfl
theorem mq76 : mks Tryz.prog 76 = none := by kernel_rfl
theorem ar133 : tarr Tryz.prog 133 = some (0, 1) := by kernel_rfl
theorem ba133 (ps : List (Nat × AV)) (K : AV → Prop) : aBuild Tryz.prog 133 ps K = aBldA (tarr Tryz.prog 133) (tzc Tryz.prog 133) ps K := aBuildA_eq (by rw [ar133]; rfl) ps K
theorem cv2_2 : tcv Tryz.prog 2 2 = some (some .i64) := by kernel_rfl
theorem cv2_3 : tcv Tryz.prog 2 3 = some (some .i64) := by kernel_rfl
theorem cv2_5 : tcv Tryz.prog 2 5 = some (some .u8) := by kernel_rfl
theorem cv2_6 : tcv Tryz.prog 2 6 = some (some .u8) := by kernel_rfl
theorem cv2_12 : tcv Tryz.prog 2 12 = some (some .u64) := by kernel_rfl
theorem cv2_21 : tcv Tryz.prog 2 21 = some (some .i32) := by kernel_rfl
theorem cv2_28 : tcv Tryz.prog 2 28 = some (some .i64) := by kernel_rfl
theorem cv2_63 : tcv Tryz.prog 2 63 = some (some .u64) := by kernel_rfl
theorem cv2_64 : tcv Tryz.prog 2 64 = some (some .u64) := by kernel_rfl
theorem cv2_101 : tcv Tryz.prog 2 101 = some (some .i64) := by kernel_rfl
theorem cv2_109 : tcv Tryz.prog 2 109 = some (some .u32) := by kernel_rfl
theorem cv2_111 : tcv Tryz.prog 2 111 = some (some .u64) := by kernel_rfl
theorem cv2_118 : tcv Tryz.prog 2 118 = some (some .u64) := by kernel_rfl
theorem cv2_137 : tcv Tryz.prog 2 137 = some (some .u8) := by kernel_rfl
theorem cv2_138 : tcv Tryz.prog 2 138 = some (some .u8) := by kernel_rfl
theorem cv2_141 : tcv Tryz.prog 2 141 = some (some .i32) := by kernel_rfl
theorem cv2_142 : tcv Tryz.prog 2 142 = some (some .i32) := by kernel_rfl
theorem cv3_2 : tcv Tryz.prog 3 2 = some (some .i64) := by kernel_rfl
theorem cv3_3 : tcv Tryz.prog 3 3 = some (some .i64) := by kernel_rfl
theorem cv3_5 : tcv Tryz.prog 3 5 = some (some .u8) := by kernel_rfl
theorem cv3_6 : tcv Tryz.prog 3 6 = some (some .u8) := by kernel_rfl
theorem cv3_12 : tcv Tryz.prog 3 12 = some (some .u64) := by kernel_rfl
theorem cv3_21 : tcv Tryz.prog 3 21 = some (some .i32) := by kernel_rfl
theorem cv3_28 : tcv Tryz.prog 3 28 = some (some .i64) := by kernel_rfl
theorem cv3_63 : tcv Tryz.prog 3 63 = some (some .u64) := by kernel_rfl
theorem cv3_64 : tcv Tryz.prog 3 64 = some (some .u64) := by kernel_rfl
theorem cv3_101 : tcv Tryz.prog 3 101 = some (some .i64) := by kernel_rfl
theorem cv3_109 : tcv Tryz.prog 3 109 = some (some .u32) := by kernel_rfl
theorem cv3_111 : tcv Tryz.prog 3 111 = some (some .u64) := by kernel_rfl
theorem cv3_118 : tcv Tryz.prog 3 118 = some (some .u64) := by kernel_rfl
theorem cv3_137 : tcv Tryz.prog 3 137 = some (some .u8) := by kernel_rfl
theorem cv3_138 : tcv Tryz.prog 3 138 = some (some .u8) := by kernel_rfl
theorem cv3_141 : tcv Tryz.prog 3 141 = some (some .i32) := by kernel_rfl
theorem cv3_142 : tcv Tryz.prog 3 142 = some (some .i32) := by kernel_rfl
theorem cv5_2 : tcv Tryz.prog 5 2 = some (some .i64) := by kernel_rfl
theorem cv5_3 : tcv Tryz.prog 5 3 = some (some .i64) := by kernel_rfl
theorem cv5_5 : tcv Tryz.prog 5 5 = some (some .u8) := by kernel_rfl
theorem cv5_6 : tcv Tryz.prog 5 6 = some (some .u8) := by kernel_rfl
theorem cv5_12 : tcv Tryz.prog 5 12 = some (some .u64) := by kernel_rfl
theorem cv5_21 : tcv Tryz.prog 5 21 = some (some .i32) := by kernel_rfl
theorem cv5_28 : tcv Tryz.prog 5 28 = some (some .i64) := by kernel_rfl
theorem cv5_63 : tcv Tryz.prog 5 63 = some (some .u64) := by kernel_rfl
theorem cv5_64 : tcv Tryz.prog 5 64 = some (some .u64) := by kernel_rfl
theorem cv5_101 : tcv Tryz.prog 5 101 = some (some .i64) := by kernel_rfl
theorem cv5_109 : tcv Tryz.prog 5 109 = some (some .u32) := by kernel_rfl
theorem cv5_111 : tcv Tryz.prog 5 111 = some (some .u64) := by kernel_rfl
theorem cv5_118 : tcv Tryz.prog 5 118 = some (some .u64) := by kernel_rfl
theorem cv5_137 : tcv Tryz.prog 5 137 = some (some .u8) := by kernel_rfl
theorem cv5_138 : tcv Tryz.prog 5 138 = some (some .u8) := by kernel_rfl
theorem cv5_141 : tcv Tryz.prog 5 141 = some (some .i32) := by kernel_rfl
theorem cv5_142 : tcv Tryz.prog 5 142 = some (some .i32) := by kernel_rfl
theorem cv6_2 : tcv Tryz.prog 6 2 = some (some .i64) := by kernel_rfl
theorem cv6_3 : tcv Tryz.prog 6 3 = some (some .i64) := by kernel_rfl
theorem cv6_5 : tcv Tryz.prog 6 5 = some (some .u8) := by kernel_rfl
theorem cv6_6 : tcv Tryz.prog 6 6 = some (some .u8) := by kernel_rfl
theorem cv6_12 : tcv Tryz.prog 6 12 = some (some .u64) := by kernel_rfl
theorem cv6_21 : tcv Tryz.prog 6 21 = some (some .i32) := by kernel_rfl
theorem cv6_28 : tcv Tryz.prog 6 28 = some (some .i64) := by kernel_rfl
theorem cv6_63 : tcv Tryz.prog 6 63 = some (some .u64) := by kernel_rfl
theorem cv6_64 : tcv Tryz.prog 6 64 = some (some .u64) := by kernel_rfl
theorem cv6_101 : tcv Tryz.prog 6 101 = some (some .i64) := by kernel_rfl
theorem cv6_109 : tcv Tryz.prog 6 109 = some (some .u32) := by kernel_rfl
theorem cv6_111 : tcv Tryz.prog 6 111 = some (some .u64) := by kernel_rfl
theorem cv6_118 : tcv Tryz.prog 6 118 = some (some .u64) := by kernel_rfl
theorem cv6_137 : tcv Tryz.prog 6 137 = some (some .u8) := by kernel_rfl
theorem cv6_138 : tcv Tryz.prog 6 138 = some (some .u8) := by kernel_rfl
theorem cv6_141 : tcv Tryz.prog 6 141 = some (some .i32) := by kernel_rfl
theorem cv6_142 : tcv Tryz.prog 6 142 = some (some .i32) := by kernel_rfl
theorem cv9_9 : tcv Tryz.prog 9 9 = some none := by kernel_rfl
theorem cv9_10 : tcv Tryz.prog 9 10 = some none := by kernel_rfl
theorem cv9_11 : tcv Tryz.prog 9 11 = some none := by kernel_rfl
theorem cv10_9 : tcv Tryz.prog 10 9 = some none := by kernel_rfl
theorem cv10_10 : tcv Tryz.prog 10 10 = some none := by kernel_rfl
theorem cv10_11 : tcv Tryz.prog 10 11 = some none := by kernel_rfl
theorem cv11_9 : tcv Tryz.prog 11 9 = some none := by kernel_rfl
theorem cv11_10 : tcv Tryz.prog 11 10 = some none := by kernel_rfl
theorem cv11_11 : tcv Tryz.prog 11 11 = some none := by kernel_rfl
theorem cv12_2 : tcv Tryz.prog 12 2 = some (some .i64) := by kernel_rfl
theorem cv12_3 : tcv Tryz.prog 12 3 = some (some .i64) := by kernel_rfl
theorem cv12_5 : tcv Tryz.prog 12 5 = some (some .u8) := by kernel_rfl
theorem cv12_6 : tcv Tryz.prog 12 6 = some (some .u8) := by kernel_rfl
theorem cv12_12 : tcv Tryz.prog 12 12 = some (some .u64) := by kernel_rfl
theorem cv12_21 : tcv Tryz.prog 12 21 = some (some .i32) := by kernel_rfl
theorem cv12_28 : tcv Tryz.prog 12 28 = some (some .i64) := by kernel_rfl
theorem cv12_63 : tcv Tryz.prog 12 63 = some (some .u64) := by kernel_rfl
theorem cv12_64 : tcv Tryz.prog 12 64 = some (some .u64) := by kernel_rfl
theorem cv12_101 : tcv Tryz.prog 12 101 = some (some .i64) := by kernel_rfl
theorem cv12_109 : tcv Tryz.prog 12 109 = some (some .u32) := by kernel_rfl
theorem cv12_111 : tcv Tryz.prog 12 111 = some (some .u64) := by kernel_rfl
theorem cv12_118 : tcv Tryz.prog 12 118 = some (some .u64) := by kernel_rfl
theorem cv12_137 : tcv Tryz.prog 12 137 = some (some .u8) := by kernel_rfl
theorem cv12_138 : tcv Tryz.prog 12 138 = some (some .u8) := by kernel_rfl
theorem cv12_141 : tcv Tryz.prog 12 141 = some (some .i32) := by kernel_rfl
theorem cv12_142 : tcv Tryz.prog 12 142 = some (some .i32) := by kernel_rfl
theorem cv21_2 : tcv Tryz.prog 21 2 = some (some .i64) := by kernel_rfl
theorem cv21_3 : tcv Tryz.prog 21 3 = some (some .i64) := by kernel_rfl
theorem cv21_5 : tcv Tryz.prog 21 5 = some (some .u8) := by kernel_rfl
theorem cv21_6 : tcv Tryz.prog 21 6 = some (some .u8) := by kernel_rfl
theorem cv21_12 : tcv Tryz.prog 21 12 = some (some .u64) := by kernel_rfl
theorem cv21_21 : tcv Tryz.prog 21 21 = some (some .i32) := by kernel_rfl
theorem cv21_28 : tcv Tryz.prog 21 28 = some (some .i64) := by kernel_rfl
theorem cv21_63 : tcv Tryz.prog 21 63 = some (some .u64) := by kernel_rfl
theorem cv21_64 : tcv Tryz.prog 21 64 = some (some .u64) := by kernel_rfl
theorem cv21_101 : tcv Tryz.prog 21 101 = some (some .i64) := by kernel_rfl
theorem cv21_109 : tcv Tryz.prog 21 109 = some (some .u32) := by kernel_rfl
theorem cv21_111 : tcv Tryz.prog 21 111 = some (some .u64) := by kernel_rfl
theorem cv21_118 : tcv Tryz.prog 21 118 = some (some .u64) := by kernel_rfl
theorem cv21_137 : tcv Tryz.prog 21 137 = some (some .u8) := by kernel_rfl
theorem cv21_138 : tcv Tryz.prog 21 138 = some (some .u8) := by kernel_rfl
theorem cv21_141 : tcv Tryz.prog 21 141 = some (some .i32) := by kernel_rfl
theorem cv21_142 : tcv Tryz.prog 21 142 = some (some .i32) := by kernel_rfl
theorem cv28_2 : tcv Tryz.prog 28 2 = some (some .i64) := by kernel_rfl
theorem cv28_3 : tcv Tryz.prog 28 3 = some (some .i64) := by kernel_rfl
theorem cv28_5 : tcv Tryz.prog 28 5 = some (some .u8) := by kernel_rfl
theorem cv28_6 : tcv Tryz.prog 28 6 = some (some .u8) := by kernel_rfl
theorem cv28_12 : tcv Tryz.prog 28 12 = some (some .u64) := by kernel_rfl
theorem cv28_21 : tcv Tryz.prog 28 21 = some (some .i32) := by kernel_rfl
theorem cv28_28 : tcv Tryz.prog 28 28 = some (some .i64) := by kernel_rfl
theorem cv28_63 : tcv Tryz.prog 28 63 = some (some .u64) := by kernel_rfl
theorem cv28_64 : tcv Tryz.prog 28 64 = some (some .u64) := by kernel_rfl
theorem cv28_101 : tcv Tryz.prog 28 101 = some (some .i64) := by kernel_rfl
theorem cv28_109 : tcv Tryz.prog 28 109 = some (some .u32) := by kernel_rfl
theorem cv28_111 : tcv Tryz.prog 28 111 = some (some .u64) := by kernel_rfl
theorem cv28_118 : tcv Tryz.prog 28 118 = some (some .u64) := by kernel_rfl
theorem cv28_137 : tcv Tryz.prog 28 137 = some (some .u8) := by kernel_rfl
theorem cv28_138 : tcv Tryz.prog 28 138 = some (some .u8) := by kernel_rfl
theorem cv28_141 : tcv Tryz.prog 28 141 = some (some .i32) := by kernel_rfl
theorem cv28_142 : tcv Tryz.prog 28 142 = some (some .i32) := by kernel_rfl
theorem cv63_2 : tcv Tryz.prog 63 2 = some (some .i64) := by kernel_rfl
theorem cv63_3 : tcv Tryz.prog 63 3 = some (some .i64) := by kernel_rfl
theorem cv63_5 : tcv Tryz.prog 63 5 = some (some .u8) := by kernel_rfl
theorem cv63_6 : tcv Tryz.prog 63 6 = some (some .u8) := by kernel_rfl
theorem cv63_12 : tcv Tryz.prog 63 12 = some (some .u64) := by kernel_rfl
theorem cv63_21 : tcv Tryz.prog 63 21 = some (some .i32) := by kernel_rfl
theorem cv63_28 : tcv Tryz.prog 63 28 = some (some .i64) := by kernel_rfl
theorem cv63_63 : tcv Tryz.prog 63 63 = some (some .u64) := by kernel_rfl
theorem cv63_64 : tcv Tryz.prog 63 64 = some (some .u64) := by kernel_rfl
theorem cv63_101 : tcv Tryz.prog 63 101 = some (some .i64) := by kernel_rfl
theorem cv63_109 : tcv Tryz.prog 63 109 = some (some .u32) := by kernel_rfl
theorem cv63_111 : tcv Tryz.prog 63 111 = some (some .u64) := by kernel_rfl
theorem cv63_118 : tcv Tryz.prog 63 118 = some (some .u64) := by kernel_rfl
theorem cv63_137 : tcv Tryz.prog 63 137 = some (some .u8) := by kernel_rfl
theorem cv63_138 : tcv Tryz.prog 63 138 = some (some .u8) := by kernel_rfl
theorem cv63_141 : tcv Tryz.prog 63 141 = some (some .i32) := by kernel_rfl
theorem cv63_142 : tcv Tryz.prog 63 142 = some (some .i32) := by kernel_rfl
theorem cv64_2 : tcv Tryz.prog 64 2 = some (some .i64) := by kernel_rfl
theorem cv64_3 : tcv Tryz.prog 64 3 = some (some .i64) := by kernel_rfl
theorem cv64_5 : tcv Tryz.prog 64 5 = some (some .u8) := by kernel_rfl
theorem cv64_6 : tcv Tryz.prog 64 6 = some (some .u8) := by kernel_rfl
theorem cv64_12 : tcv Tryz.prog 64 12 = some (some .u64) := by kernel_rfl
theorem cv64_21 : tcv Tryz.prog 64 21 = some (some .i32) := by kernel_rfl
theorem cv64_28 : tcv Tryz.prog 64 28 = some (some .i64) := by kernel_rfl
theorem cv64_63 : tcv Tryz.prog 64 63 = some (some .u64) := by kernel_rfl
theorem cv64_64 : tcv Tryz.prog 64 64 = some (some .u64) := by kernel_rfl
theorem cv64_101 : tcv Tryz.prog 64 101 = some (some .i64) := by kernel_rfl
theorem cv64_109 : tcv Tryz.prog 64 109 = some (some .u32) := by kernel_rfl
theorem cv64_111 : tcv Tryz.prog 64 111 = some (some .u64) := by kernel_rfl
theorem cv64_118 : tcv Tryz.prog 64 118 = some (some .u64) := by kernel_rfl
theorem cv64_137 : tcv Tryz.prog 64 137 = some (some .u8) := by kernel_rfl
theorem cv64_138 : tcv Tryz.prog 64 138 = some (some .u8) := by kernel_rfl
theorem cv64_141 : tcv Tryz.prog 64 141 = some (some .i32) := by kernel_rfl
theorem cv64_142 : tcv Tryz.prog 64 142 = some (some .i32) := by kernel_rfl
theorem cv101_2 : tcv Tryz.prog 101 2 = some (some .i64) := by kernel_rfl
theorem cv101_3 : tcv Tryz.prog 101 3 = some (some .i64) := by kernel_rfl
theorem cv101_5 : tcv Tryz.prog 101 5 = some (some .u8) := by kernel_rfl
theorem cv101_6 : tcv Tryz.prog 101 6 = some (some .u8) := by kernel_rfl
theorem cv101_12 : tcv Tryz.prog 101 12 = some (some .u64) := by kernel_rfl
theorem cv101_21 : tcv Tryz.prog 101 21 = some (some .i32) := by kernel_rfl
theorem cv101_28 : tcv Tryz.prog 101 28 = some (some .i64) := by kernel_rfl
theorem cv101_63 : tcv Tryz.prog 101 63 = some (some .u64) := by kernel_rfl
theorem cv101_64 : tcv Tryz.prog 101 64 = some (some .u64) := by kernel_rfl
theorem cv101_101 : tcv Tryz.prog 101 101 = some (some .i64) := by kernel_rfl
theorem cv101_109 : tcv Tryz.prog 101 109 = some (some .u32) := by kernel_rfl
theorem cv101_111 : tcv Tryz.prog 101 111 = some (some .u64) := by kernel_rfl
theorem cv101_118 : tcv Tryz.prog 101 118 = some (some .u64) := by kernel_rfl
theorem cv101_137 : tcv Tryz.prog 101 137 = some (some .u8) := by kernel_rfl
theorem cv101_138 : tcv Tryz.prog 101 138 = some (some .u8) := by kernel_rfl
theorem cv101_141 : tcv Tryz.prog 101 141 = some (some .i32) := by kernel_rfl
theorem cv101_142 : tcv Tryz.prog 101 142 = some (some .i32) := by kernel_rfl
theorem cv109_2 : tcv Tryz.prog 109 2 = some (some .i64) := by kernel_rfl
theorem cv109_3 : tcv Tryz.prog 109 3 = some (some .i64) := by kernel_rfl
theorem cv109_5 : tcv Tryz.prog 109 5 = some (some .u8) := by kernel_rfl
theorem cv109_6 : tcv Tryz.prog 109 6 = some (some .u8) := by kernel_rfl
theorem cv109_12 : tcv Tryz.prog 109 12 = some (some .u64) := by kernel_rfl
theorem cv109_21 : tcv Tryz.prog 109 21 = some (some .i32) := by kernel_rfl
theorem cv109_28 : tcv Tryz.prog 109 28 = some (some .i64) := by kernel_rfl
theorem cv109_63 : tcv Tryz.prog 109 63 = some (some .u64) := by kernel_rfl
theorem cv109_64 : tcv Tryz.prog 109 64 = some (some .u64) := by kernel_rfl
theorem cv109_101 : tcv Tryz.prog 109 101 = some (some .i64) := by kernel_rfl
theorem cv109_109 : tcv Tryz.prog 109 109 = some (some .u32) := by kernel_rfl
theorem cv109_111 : tcv Tryz.prog 109 111 = some (some .u64) := by kernel_rfl
theorem cv109_118 : tcv Tryz.prog 109 118 = some (some .u64) := by kernel_rfl
theorem cv109_137 : tcv Tryz.prog 109 137 = some (some .u8) := by kernel_rfl
theorem cv109_138 : tcv Tryz.prog 109 138 = some (some .u8) := by kernel_rfl
theorem cv109_141 : tcv Tryz.prog 109 141 = some (some .i32) := by kernel_rfl
theorem cv109_142 : tcv Tryz.prog 109 142 = some (some .i32) := by kernel_rfl
theorem cv111_2 : tcv Tryz.prog 111 2 = some (some .i64) := by kernel_rfl
theorem cv111_3 : tcv Tryz.prog 111 3 = some (some .i64) := by kernel_rfl
theorem cv111_5 : tcv Tryz.prog 111 5 = some (some .u8) := by kernel_rfl
theorem cv111_6 : tcv Tryz.prog 111 6 = some (some .u8) := by kernel_rfl
theorem cv111_12 : tcv Tryz.prog 111 12 = some (some .u64) := by kernel_rfl
theorem cv111_21 : tcv Tryz.prog 111 21 = some (some .i32) := by kernel_rfl
theorem cv111_28 : tcv Tryz.prog 111 28 = some (some .i64) := by kernel_rfl
theorem cv111_63 : tcv Tryz.prog 111 63 = some (some .u64) := by kernel_rfl
theorem cv111_64 : tcv Tryz.prog 111 64 = some (some .u64) := by kernel_rfl
theorem cv111_101 : tcv Tryz.prog 111 101 = some (some .i64) := by kernel_rfl
theorem cv111_109 : tcv Tryz.prog 111 109 = some (some .u32) := by kernel_rfl
theorem cv111_111 : tcv Tryz.prog 111 111 = some (some .u64) := by kernel_rfl
theorem cv111_118 : tcv Tryz.prog 111 118 = some (some .u64) := by kernel_rfl
theorem cv111_137 : tcv Tryz.prog 111 137 = some (some .u8) := by kernel_rfl
theorem cv111_138 : tcv Tryz.prog 111 138 = some (some .u8) := by kernel_rfl
theorem cv111_141 : tcv Tryz.prog 111 141 = some (some .i32) := by kernel_rfl
theorem cv111_142 : tcv Tryz.prog 111 142 = some (some .i32) := by kernel_rfl
theorem cv118_2 : tcv Tryz.prog 118 2 = some (some .i64) := by kernel_rfl
theorem cv118_3 : tcv Tryz.prog 118 3 = some (some .i64) := by kernel_rfl
theorem cv118_5 : tcv Tryz.prog 118 5 = some (some .u8) := by kernel_rfl
theorem cv118_6 : tcv Tryz.prog 118 6 = some (some .u8) := by kernel_rfl
theorem cv118_12 : tcv Tryz.prog 118 12 = some (some .u64) := by kernel_rfl
theorem cv118_21 : tcv Tryz.prog 118 21 = some (some .i32) := by kernel_rfl
theorem cv118_28 : tcv Tryz.prog 118 28 = some (some .i64) := by kernel_rfl
theorem cv118_63 : tcv Tryz.prog 118 63 = some (some .u64) := by kernel_rfl
theorem cv118_64 : tcv Tryz.prog 118 64 = some (some .u64) := by kernel_rfl
theorem cv118_101 : tcv Tryz.prog 118 101 = some (some .i64) := by kernel_rfl
theorem cv118_109 : tcv Tryz.prog 118 109 = some (some .u32) := by kernel_rfl
theorem cv118_111 : tcv Tryz.prog 118 111 = some (some .u64) := by kernel_rfl
theorem cv118_118 : tcv Tryz.prog 118 118 = some (some .u64) := by kernel_rfl
theorem cv118_137 : tcv Tryz.prog 118 137 = some (some .u8) := by kernel_rfl
theorem cv118_138 : tcv Tryz.prog 118 138 = some (some .u8) := by kernel_rfl
theorem cv118_141 : tcv Tryz.prog 118 141 = some (some .i32) := by kernel_rfl
theorem cv118_142 : tcv Tryz.prog 118 142 = some (some .i32) := by kernel_rfl
theorem cv137_2 : tcv Tryz.prog 137 2 = some (some .i64) := by kernel_rfl
theorem cv137_3 : tcv Tryz.prog 137 3 = some (some .i64) := by kernel_rfl
theorem cv137_5 : tcv Tryz.prog 137 5 = some (some .u8) := by kernel_rfl
theorem cv137_6 : tcv Tryz.prog 137 6 = some (some .u8) := by kernel_rfl
theorem cv137_12 : tcv Tryz.prog 137 12 = some (some .u64) := by kernel_rfl
theorem cv137_21 : tcv Tryz.prog 137 21 = some (some .i32) := by kernel_rfl
theorem cv137_28 : tcv Tryz.prog 137 28 = some (some .i64) := by kernel_rfl
theorem cv137_63 : tcv Tryz.prog 137 63 = some (some .u64) := by kernel_rfl
theorem cv137_64 : tcv Tryz.prog 137 64 = some (some .u64) := by kernel_rfl
theorem cv137_101 : tcv Tryz.prog 137 101 = some (some .i64) := by kernel_rfl
theorem cv137_109 : tcv Tryz.prog 137 109 = some (some .u32) := by kernel_rfl
theorem cv137_111 : tcv Tryz.prog 137 111 = some (some .u64) := by kernel_rfl
theorem cv137_118 : tcv Tryz.prog 137 118 = some (some .u64) := by kernel_rfl
theorem cv137_137 : tcv Tryz.prog 137 137 = some (some .u8) := by kernel_rfl
theorem cv137_138 : tcv Tryz.prog 137 138 = some (some .u8) := by kernel_rfl
theorem cv137_141 : tcv Tryz.prog 137 141 = some (some .i32) := by kernel_rfl
theorem cv137_142 : tcv Tryz.prog 137 142 = some (some .i32) := by kernel_rfl
theorem cv138_2 : tcv Tryz.prog 138 2 = some (some .i64) := by kernel_rfl
theorem cv138_3 : tcv Tryz.prog 138 3 = some (some .i64) := by kernel_rfl
theorem cv138_5 : tcv Tryz.prog 138 5 = some (some .u8) := by kernel_rfl
theorem cv138_6 : tcv Tryz.prog 138 6 = some (some .u8) := by kernel_rfl
theorem cv138_12 : tcv Tryz.prog 138 12 = some (some .u64) := by kernel_rfl
theorem cv138_21 : tcv Tryz.prog 138 21 = some (some .i32) := by kernel_rfl
theorem cv138_28 : tcv Tryz.prog 138 28 = some (some .i64) := by kernel_rfl
theorem cv138_63 : tcv Tryz.prog 138 63 = some (some .u64) := by kernel_rfl
theorem cv138_64 : tcv Tryz.prog 138 64 = some (some .u64) := by kernel_rfl
theorem cv138_101 : tcv Tryz.prog 138 101 = some (some .i64) := by kernel_rfl
theorem cv138_109 : tcv Tryz.prog 138 109 = some (some .u32) := by kernel_rfl
theorem cv138_111 : tcv Tryz.prog 138 111 = some (some .u64) := by kernel_rfl
theorem cv138_118 : tcv Tryz.prog 138 118 = some (some .u64) := by kernel_rfl
theorem cv138_137 : tcv Tryz.prog 138 137 = some (some .u8) := by kernel_rfl
theorem cv138_138 : tcv Tryz.prog 138 138 = some (some .u8) := by kernel_rfl
theorem cv138_141 : tcv Tryz.prog 138 141 = some (some .i32) := by kernel_rfl
theorem cv138_142 : tcv Tryz.prog 138 142 = some (some .i32) := by kernel_rfl
theorem cv141_2 : tcv Tryz.prog 141 2 = some (some .i64) := by kernel_rfl
theorem cv141_3 : tcv Tryz.prog 141 3 = some (some .i64) := by kernel_rfl
theorem cv141_5 : tcv Tryz.prog 141 5 = some (some .u8) := by kernel_rfl
theorem cv141_6 : tcv Tryz.prog 141 6 = some (some .u8) := by kernel_rfl
theorem cv141_12 : tcv Tryz.prog 141 12 = some (some .u64) := by kernel_rfl
theorem cv141_21 : tcv Tryz.prog 141 21 = some (some .i32) := by kernel_rfl
theorem cv141_28 : tcv Tryz.prog 141 28 = some (some .i64) := by kernel_rfl
theorem cv141_63 : tcv Tryz.prog 141 63 = some (some .u64) := by kernel_rfl
theorem cv141_64 : tcv Tryz.prog 141 64 = some (some .u64) := by kernel_rfl
theorem cv141_101 : tcv Tryz.prog 141 101 = some (some .i64) := by kernel_rfl
theorem cv141_109 : tcv Tryz.prog 141 109 = some (some .u32) := by kernel_rfl
theorem cv141_111 : tcv Tryz.prog 141 111 = some (some .u64) := by kernel_rfl
theorem cv141_118 : tcv Tryz.prog 141 118 = some (some .u64) := by kernel_rfl
theorem cv141_137 : tcv Tryz.prog 141 137 = some (some .u8) := by kernel_rfl
theorem cv141_138 : tcv Tryz.prog 141 138 = some (some .u8) := by kernel_rfl
theorem cv141_141 : tcv Tryz.prog 141 141 = some (some .i32) := by kernel_rfl
theorem cv141_142 : tcv Tryz.prog 141 142 = some (some .i32) := by kernel_rfl
theorem cv142_2 : tcv Tryz.prog 142 2 = some (some .i64) := by kernel_rfl
theorem cv142_3 : tcv Tryz.prog 142 3 = some (some .i64) := by kernel_rfl
theorem cv142_5 : tcv Tryz.prog 142 5 = some (some .u8) := by kernel_rfl
theorem cv142_6 : tcv Tryz.prog 142 6 = some (some .u8) := by kernel_rfl
theorem cv142_12 : tcv Tryz.prog 142 12 = some (some .u64) := by kernel_rfl
theorem cv142_21 : tcv Tryz.prog 142 21 = some (some .i32) := by kernel_rfl
theorem cv142_28 : tcv Tryz.prog 142 28 = some (some .i64) := by kernel_rfl
theorem cv142_63 : tcv Tryz.prog 142 63 = some (some .u64) := by kernel_rfl
theorem cv142_64 : tcv Tryz.prog 142 64 = some (some .u64) := by kernel_rfl
theorem cv142_101 : tcv Tryz.prog 142 101 = some (some .i64) := by kernel_rfl
theorem cv142_109 : tcv Tryz.prog 142 109 = some (some .u32) := by kernel_rfl
theorem cv142_111 : tcv Tryz.prog 142 111 = some (some .u64) := by kernel_rfl
theorem cv142_118 : tcv Tryz.prog 142 118 = some (some .u64) := by kernel_rfl
theorem cv142_137 : tcv Tryz.prog 142 137 = some (some .u8) := by kernel_rfl
theorem cv142_138 : tcv Tryz.prog 142 138 = some (some .u8) := by kernel_rfl
theorem cv142_141 : tcv Tryz.prog 142 141 = some (some .i32) := by kernel_rfl
theorem cv142_142 : tcv Tryz.prog 142 142 = some (some .i32) := by kernel_rfl
attribute [go_sem] sz1 ag1 zc1 sr1 sz2 ag2 zc2 sr2 sz3 ag3 zc3 sr3 sz4 ag4 zc4 sr4 bo4 sz5 ag5 zc5 sr5 sz6 ag6 zc6 sr6 ni6 ta6 sz7 ag7 zc7 sr7 fd7_0 fo7_0 fd7_1 fo7_1 fd7_2 fo7_2 fd7_3 fo7_3 pl7 bd7 sz8 ag8 zc8 sr8 fd8_0 fo8_0 fd8_1 fo8_1 fd8_2 fo8_2 fd8_3 fo8_3 pl8 bd8 ni8 ta8 sz9 ag9 zc9 sr9 cu9 ln9 sz10 ag10 zc10 sr10 ni10 ta10 cu10 ln10 sz11 ag11 zc11 sr11 ni11 ta11 cu11 ln11 sz12 ag12 zc12 sr12 sz13 ag13 zc13 sr13 fd13_0 fo13_0 fd13_1 fo13_1 pl13 bd13 sz14 ag14 zc14 sr14 fd14_0 fo14_0 fd14_1 fo14_1 pl14 bd14 ni14 ta14 sz15 ag15 zc15 sr15 ni15 ta15 sz16 ag16 zc16 sr16 ni16 ta16 sz17 ag17 zc17 sr17 ni17 ta17 sz18 ag18 zc18 sr18 fd18_0 fo18_0 pl18 bd18 sz19 ag19 zc19 sr19 fd19_0 fo19_0 pl19 bd19 ni19 ta19 sz20 ag20 zc20 sr20 if20 sz21 ag21 zc21 sr21 sz22 ag22 zc22 sr22 el22 cu22 ap22 bs22 ms22 mm22 mc22 mb22 ma22 ae22_22 ln22 sz23 ag23 zc23 sr23 fd23_0 fo23_0 fd23_1 fo23_1 fd23_2 fo23_2 pl23 bd23 sz24 ag24 zc24 sr24 fd24_0 fo24_0 fd24_1 fo24_1 fd24_2 fo24_2 pl24 bd24 ni24 ta24 sz25 ag25 zc25 sr25 sz26 ag26 zc26 sr26 sz27 ag27 zc27 sr27 el27 cu27 ap27 bs27 ms27 mm27 mc27 mb27 ma27 ae27_27 ln27 sz28 ag28 zc28 sr28 ni28 ta28 sz30 ag30 zc30 sr30 sz31 ag31 zc31 sr31 sz32 ag32 zc32 sr32 sz33 ag33 zc33 sr33 el33 cu33 ap33 bs33 ms33 mm33 mc33 mb33 ma33 ae33_33 ln33 sz34 ag34 zc34 sr34 sz36 ag36 zc36 sr36 sz37 ag37 zc37 sr37 sz38 ag38 zc38 sr38 sz39 ag39 zc39 sr39 sz40 ag40 zc40 sr40 sz41 ag41 zc41 sr41 sz42 ag42 zc42 sr42 sz43 ag43 zc43 sr43 sz44 ag44 zc44 sr44 ni44 ta44 sz45 ag45 zc45 sr45 sz46 ag46 zc46 sr46 sz48 ag48 zc48 sr48 sz49 ag49 zc49 sr49 sz50 ag50 zc50 sr50 sz51 ag51 zc51 sr51 sz52 ag52 zc52 sr52 sz53 ag53 zc53 sr53 sz54 ag54 zc54 sr54 sz55 ag55 zc55 sr55 sz56 ag56 zc56 sr56 sz57 ag57 zc57 sr57 sz58 ag58 zc58 sr58 sz59 ag59 zc59 sr59 sz60 ag60 zc60 sr60 sz61 ag61 zc61 sr61 sz63 ag63 zc63 sr63 sz64 ag64 zc64 sr64 ni64 ta64 sz65 ag65 zc65 sr65 sz66 ag66 zc66 sr66 fd66_0 fo66_0 fd66_1 fo66_1 fd66_2 fo66_2 pl66 bd66 sz67 ag67 zc67 sr67 fd67_0 fo67_0 fd67_1 fo67_1 fd67_2 fo67_2 pl67 bd67 ni67 ta67 sz69 ag69 zc69 sr69 sz70 ag70 zc70 sr70 sz71 ag71 zc71 sr71 ln71 mk71 sz72 ag72 zc72 sr72 sz73 ag73 zc73 sr73 sz74 ag74 zc74 sr74 sz75 ag75 zc75 sr75 sz76 ag76 zc76 sr76 ln76 mk76 sz77 ag77 zc77 sr77 sz78 ag78 zc78 sr78 sz79 ag79 zc79 sr79 sz80 ag80 zc80 sr80 sz81 ag81 zc81 sr81 sz82 ag82 zc82 sr82 sz83 ag83 zc83 sr83 el83 cu83 ap83 bs83 ms83 mm83 mc83 mb83 ma83 ae83_83 ln83 sz84 ag84 zc84 sr84 sz85 ag85 zc85 sr85 sz86 ag86 zc86 sr86 sz87 ag87 zc87 sr87 sz88 ag88 zc88 sr88 sz89 ag89 zc89 sr89 sz90 ag90 zc90 sr90 sz91 ag91 zc91 sr91 sz92 ag92 zc92 sr92 sz93 ag93 zc93 sr93 sz94 ag94 zc94 sr94 sz95 ag95 zc95 sr95 sz96 ag96 zc96 sr96 sz97 ag97 zc97 sr97 sz98 ag98 zc98 sr98 sz99 ag99 zc99 sr99 sz100 ag100 zc100 sr100 sz101 ag101 zc101 sr101 ni101 ta101 sz103 ag103 zc103 sr103 sz104 ag104 zc104 sr104 sz105 ag105 zc105 sr105 sz107 ag107 zc107 sr107 sz108 ag108 zc108 sr108 sz109 ag109 zc109 sr109 sz110 ag110 zc110 sr110 sz111 ag111 zc111 sr111 sz112 ag112 zc112 sr112 sz113 ag113 zc113 sr113 sz114 ag114 zc114 sr114 sz115 ag115 zc115 sr115 sz116 ag116 zc116 sr116 sz117 ag117 zc117 sr117 sz118 ag118 zc118 sr118 ni118 ta118 sz119 ag119 zc119 sr119 sz120 ag120 zc120 sr120 sz121 ag121 zc121 sr121 sz122 ag122 zc122 sr122 ni122 ta122 sz123 ag123 zc123 sr123 sz124 ag124 zc124 sr124 sz125 ag125 zc125 sr125 sz126 ag126 zc126 sr126 ni126 ta126 sz128 ag128 zc128 sr128 sz129 ag129 zc129 sr129 sz130 ag130 zc130 sr130 sz131 ag131 zc131 sr131 fd131_0 fo131_0 fd131_1 fo131_1 fd131_2 fo131_2 fd131_3 fo131_3 pl131 bd131 sz132 ag132 zc132 sr132 fd132_0 fo132_0 fd132_1 fo132_1 fd132_2 fo132_2 fd132_3 fo132_3 pl132 bd132 ni132 ta132 sz133 ag133 zc133 sr133 es133 el133 ln133 sz134 ag134 zc134 sr134 fd134_0 pl134 bd134 sz135 ag135 zc135 sr135 fd135_0 pl135 bd135 ni135 ta135 sz136 ag136 zc136 sr136 sz137 ag137 zc137 sr137 ni137 ta137 sz138 ag138 zc138 sr138 ni138 ta138 sz139 ag139 zc139 sr139 sz140 ag140 zc140 sr140 ni140 ta140 sz141 ag141 zc141 sr141 ni141 ta141 sz142 ag142 zc142 sr142 ni142 ta142 sz143 ag143 zc143 sr143 fd143_0 fo143_0 fd143_1 fo143_1 fd143_2 fo143_2 fd143_3 fo143_3 fd143_4 fo143_4 fd143_5 fo143_5 fd143_6 fo143_6 fd143_7 fo143_7 fd143_8 fo143_8 fd143_9 fo143_9 fd143_10 fo143_10 pl143 bd143 sz144 ag144 zc144 sr144 fd144_0 fo144_0 fd144_1 fo144_1 fd144_2 fo144_2 fd144_3 fo144_3 fd144_4 fo144_4 fd144_5 fo144_5 fd144_6 fo144_6 fd144_7 fo144_7 fd144_8 fo144_8 fd144_9 fo144_9 fd144_10 fo144_10 pl144 bd144 ni144 ta144 sz145 ag145 zc145 sr145 mu71 mu76 mq71 mq76 ar133 ba133 cv2_2 cv2_3 cv2_5 cv2_6 cv2_12 cv2_21 cv2_28 cv2_63 cv2_64 cv2_101 cv2_109 cv2_111 cv2_118 cv2_137 cv2_138 cv2_141 cv2_142 cv3_2 cv3_3 cv3_5 cv3_6 cv3_12 cv3_21 cv3_28 cv3_63 cv3_64 cv3_101 cv3_109 cv3_111 cv3_118 cv3_137 cv3_138 cv3_141 cv3_142 cv5_2 cv5_3 cv5_5 cv5_6 cv5_12 cv5_21 cv5_28 cv5_63 cv5_64 cv5_101 cv5_109 cv5_111 cv5_118 cv5_137 cv5_138 cv5_141 cv5_142 cv6_2 cv6_3 cv6_5 cv6_6 cv6_12 cv6_21 cv6_28 cv6_63 cv6_64 cv6_101 cv6_109 cv6_111 cv6_118 cv6_137 cv6_138 cv6_141 cv6_142 cv9_9 cv9_10 cv9_11 cv10_9 cv10_10 cv10_11 cv11_9 cv11_10 cv11_11 cv12_2 cv12_3 cv12_5 cv12_6 cv12_12 cv12_21 cv12_28 cv12_63 cv12_64 cv12_101 cv12_109 cv12_111 cv12_118 cv12_137 cv12_138 cv12_141 cv12_142 cv21_2 cv21_3 cv21_5 cv21_6 cv21_12 cv21_21 cv21_28 cv21_63 cv21_64 cv21_101 cv21_109 cv21_111 cv21_118 cv21_137 cv21_138 cv21_141 cv21_142 cv28_2 cv28_3 cv28_5 cv28_6 cv28_12 cv28_21 cv28_28 cv28_63 cv28_64 cv28_101 cv28_109 cv28_111 cv28_118 cv28_137 cv28_138 cv28_141 cv28_142 cv63_2 cv63_3 cv63_5 cv63_6 cv63_12 cv63_21 cv63_28 cv63_63 cv63_64 cv63_101 cv63_109 cv63_111 cv63_118 cv63_137 cv63_138 cv63_141 cv63_142 cv64_2 cv64_3 cv64_5 cv64_6 cv64_12 cv64_21 cv64_28 cv64_63 cv64_64 cv64_101 cv64_109 cv64_111 cv64_118 cv64_137 cv64_138 cv64_141 cv64_142 cv101_2 cv101_3 cv101_5 cv101_6 cv101_12 cv101_21 cv101_28 cv101_63 cv101_64 cv101_101 cv101_109 cv101_111 cv101_118 cv101_137 cv101_138 cv101_141 cv101_142 cv109_2 cv109_3 cv109_5 cv109_6 cv109_12 cv109_21 cv109_28 cv109_63 cv109_64 cv109_101 cv109_109 cv109_111 cv109_118 cv109_137 cv109_138 cv109_141 cv109_142 cv111_2 cv111_3 cv111_5 cv111_6 cv111_12 cv111_21 cv111_28 cv111_63 cv111_64 cv111_101 cv111_109 cv111_111 cv111_118 cv111_137 cv111_138 cv111_141 cv111_142 cv118_2 cv118_3 cv118_5 cv118_6 cv118_12 cv118_21 cv118_28 cv118_63 cv118_64 cv118_101 cv118_109 cv118_111 cv118_118 cv118_137 cv118_138 cv118_141 cv118_142 cv137_2 cv137_3 cv137_5 cv137_6 cv137_12 cv137_21 cv137_28 cv137_63 cv137_64 cv137_101 cv137_109 cv137_111 cv137_118 cv137_137 cv137_138 cv137_141 cv137_142 cv138_2 cv138_3 cv138_5 cv138_6 cv138_12 cv138_21 cv138_28 cv138_63 cv138_64 cv138_101 cv138_109 cv138_111 cv138_118 cv138_137 cv138_138 cv138_141 cv138_142 cv141_2 cv141_3 cv141_5 cv141_6 cv141_12 cv141_21 cv141_28 cv141_63 cv141_64 cv141_101 cv141_109 cv141_111 cv141_118 cv141_137 cv141_138 cv141_141 cv141_142 cv142_2 cv142_3 cv142_5 cv142_6 cv142_12 cv142_21 cv142_28 cv142_63 cv142_64 cv142_101 cv142_109 cv142_111 cv142_118 cv142_137 cv142_138 cv142_141 cv142_142
end Go.Proofs.YtelehpccfaedjaaGreat.Ty
