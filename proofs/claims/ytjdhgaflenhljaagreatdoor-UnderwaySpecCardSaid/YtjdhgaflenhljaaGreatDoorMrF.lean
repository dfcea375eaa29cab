/- Texts joined: Ty. No conditions. -/
import Derived.Test.YtjdhgaflenhljaaGreatDoorProg
import Derived.Test.YtjdhgaflenhljaaGreatDoorMrE
import Derived.KernelRfl
/- The closed facts on the types of this translation: cells, zero values, places of fields, elements. By program; no conditions. -/
namespace Go.Proofs.YtjdhgaflenhljaaGreatDoor.Ty
open Go Go.Proofs Go.Abs
theorem mixed : Tryz.prog.follows .mixedOrders = true := by kernel_rfl
theorem sz1 : tsz Tryz.prog 1 = some 1 := by kernel_rfl
theorem ag1 : tag Tryz.prog 1 = some none := by kernel_rfl
theorem zc1 : tzc Tryz.prog 1 = some [.nilFunc] := by kernel_rfl
theorem sr1 : tsrc Tryz.prog 1 = true := by kernel_rfl
theorem sz2 : tsz Tryz.prog 2 = some 1 := by kernel_rfl
theorem ag2 : tag Tryz.prog 2 = some none := by kernel_rfl
theorem zc2 : tzc Tryz.prog 2 = some [(.int .i64 0)] := by kernel_rfl
theorem sr2 : tsrc Tryz.prog 2 = false := by kernel_rfl
theorem sz3 : tsz Tryz.prog 3 = some 1 := by kernel_rfl
theorem ag3 : tag Tryz.prog 3 = some none := by kernel_rfl
theorem zc3 : tzc Tryz.prog 3 = some [(.int .i64 0)] := by kernel_rfl
theorem sr3 : tsrc Tryz.prog 3 = false := by kernel_rfl
theorem sz4 : tsz Tryz.prog 4 = some 1 := by kernel_rfl
theorem ag4 : tag Tryz.prog 4 = some none := by kernel_rfl
theorem zc4 : tzc Tryz.prog 4 = some [(.bool false)] := by kernel_rfl
theorem sr4 : tsrc Tryz.prog 4 = true := by kernel_rfl
theorem bo4 : tbool Tryz.prog 4 = true := by kernel_rfl
theorem sz5 : tsz Tryz.prog 5 = some 1 := by kernel_rfl
theorem ag5 : tag Tryz.prog 5 = some none := by kernel_rfl
theorem zc5 : tzc Tryz.prog 5 = some [(.int .u8 0)] := by kernel_rfl
theorem sr5 : tsrc Tryz.prog 5 = false := by kernel_rfl
theorem sz6 : tsz Tryz.prog 6 = some 1 := by kernel_rfl
theorem ag6 : tag Tryz.prog 6 = some none := by kernel_rfl
theorem zc6 : tzc Tryz.prog 6 = some [(.int .u8 0)] := by kernel_rfl
theorem sr6 : tsrc Tryz.prog 6 = false := by kernel_rfl
theorem ni6 : tni Tryz.prog 6 = true := by kernel_rfl
theorem ta6 : tas Tryz.prog 6 = some (.int .u8 0) := by kernel_rfl
theorem sz7 : tsz Tryz.prog 7 = some 4 := by kernel_rfl
theorem ag7 : tag Tryz.prog 7 = some (some 4) := by kernel_rfl
theorem zc7 : tzc Tryz.prog 7 = some [(.int .i64 0), (.int .i64 0), (.bool false), (.int .u8 0)] := by kernel_rfl
theorem sr7 : tsrc Tryz.prog 7 = true := by kernel_rfl
theorem fd7_0 : tfd Tryz.prog 7 0 = some (0, 2) := by kernel_rfl
theorem fo7_0 : tfo Tryz.prog 7 0 = some 0 := by kernel_rfl
theorem fd7_1 : tfd Tryz.prog 7 1 = some (1, 3) := by kernel_rfl
theorem fo7_1 : tfo Tryz.prog 7 1 = some 1 := by kernel_rfl
theorem fd7_2 : tfd Tryz.prog 7 2 = some (2, 4) := by kernel_rfl
theorem fo7_2 : tfo Tryz.prog 7 2 = some 2 := by kernel_rfl
theorem fd7_3 : tfd Tryz.prog 7 3 = some (3, 6) := by kernel_rfl
theorem fo7_3 : tfo Tryz.prog 7 3 = some 3 := by kernel_rfl
theorem pl7 : tpl Tryz.prog 7 = some [(0, 1), (1, 1), (2, 1), (3, 1)] := by kernel_rfl
theorem bd7 (ps : List (Nat × AV)) (K : AV → Prop) : aBuild Tryz.prog 7 ps K = aBld (tpl Tryz.prog 7) (tzc Tryz.prog 7) ps K := aBuild_eq (by rw [pl7]; rfl) ps K
theorem sz8 : tsz Tryz.prog 8 = some 4 := by kernel_rfl
theorem ag8 : tag Tryz.prog 8 = some (some 4) := by kernel_rfl
theorem zc8 : tzc Tryz.prog 8 = some [(.int .i64 0), (.int .i64 0), (.bool false), (.int .u8 0)] := by kernel_rfl
theorem sr8 : tsrc Tryz.prog 8 = true := by kernel_rfl
theorem fd8_0 : tfd Tryz.prog 8 0 = some (0, 2) := by kernel_rfl
theorem fo8_0 : tfo Tryz.prog 8 0 = some 0 := by kernel_rfl
theorem fd8_1 : tfd Tryz.prog 8 1 = some (1, 3) := by kernel_rfl
theorem fo8_1 : tfo Tryz.prog 8 1 = some 1 := by kernel_rfl
theorem fd8_2 : tfd Tryz.prog 8 2 = some (2, 4) := by kernel_rfl
theorem fo8_2 : tfo Tryz.prog 8 2 = some 2 := by kernel_rfl
theorem fd8_3 : tfd Tryz.prog 8 3 = some (3, 6) := by kernel_rfl
theorem fo8_3 : tfo Tryz.prog 8 3 = some 3 := by kernel_rfl
theorem pl8 : tpl Tryz.prog 8 = some [(0, 1), (1, 1), (2, 1), (3, 1)] := by kernel_rfl
theorem bd8 (ps : List (Nat × AV)) (K : AV → Prop) : aBuild Tryz.prog 8 ps K = aBld (tpl Tryz.prog 8) (tzc Tryz.prog 8) ps K := aBuild_eq (by rw [pl8]; rfl) ps K
theorem ni8 : tni Tryz.prog 8 = true := by kernel_rfl
theorem ta8 : tas Tryz.prog 8 = some (.agg [(.int .i64 0), (.int .i64 0), (.bool false), (.int .u8 0)]) := by kernel_rfl
theorem sz9 : tsz Tryz.prog 9 = some 1 := by kernel_rfl
theorem ag9 : tag Tryz.prog 9 = some none := by kernel_rfl
theorem zc9 : tzc Tryz.prog 9 = some [(.str ⟨#[]⟩)] := by kernel_rfl
theorem sr9 : tsrc Tryz.prog 9 = true := by kernel_rfl
theorem cu9 : tcut Tryz.prog 9 = some none := by kernel_rfl
theorem ln9 : tlen Tryz.prog 9 = some .str := by kernel_rfl
theorem sz10 : tsz Tryz.prog 10 = some 1 := by kernel_rfl
theorem ag10 : tag Tryz.prog 10 = some none := by kernel_rfl
theorem zc10 : tzc Tryz.prog 10 = some [(.str ⟨#[]⟩)] := by kernel_rfl
theorem sr10 : tsrc Tryz.prog 10 = true := by kernel_rfl
theorem ni10 : tni Tryz.prog 10 = true := by kernel_rfl
theorem ta10 : tas Tryz.prog 10 = some (.str ⟨#[]⟩) := by kernel_rfl
theorem cu10 : tcut Tryz.prog 10 = some none := by kernel_rfl
theorem ln10 : tlen Tryz.prog 10 = some .str := by kernel_rfl
theorem sz11 : tsz Tryz.prog 11 = some 1 := by kernel_rfl
theorem ag11 : tag Tryz.prog 11 = some none := by kernel_rfl
theorem zc11 : tzc Tryz.prog 11 = some [(.str ⟨#[]⟩)] := by kernel_rfl
theorem sr11 : tsrc Tryz.prog 11 = true := by kernel_rfl
theorem ni11 : tni Tryz.prog 11 = true := by kernel_rfl
theorem ta11 : tas Tryz.prog 11 = some (.str ⟨#[]⟩) := by kernel_rfl
theorem cu11 : tcut Tryz.prog 11 = some none := by kernel_rfl
theorem ln11 : tlen Tryz.prog 11 = some .str := by kernel_rfl
theorem sz12 : tsz Tryz.prog 12 = some 1 := by kernel_rfl
theorem ag12 : tag Tryz.prog 12 = some none := by kernel_rfl
theorem zc12 : tzc Tryz.prog 12 = some [(.int .u64 0)] := by kernel_rfl
theorem sr12 : tsrc Tryz.prog 12 = false := by kernel_rfl
theorem sz13 : tsz Tryz.prog 13 = some 2 := by kernel_rfl
theorem ag13 : tag Tryz.prog 13 = some (some 2) := by kernel_rfl
theorem zc13 : tzc Tryz.prog 13 = some [(.str ⟨#[]⟩), (.int .u64 0)] := by kernel_rfl
theorem sr13 : tsrc Tryz.prog 13 = true := by kernel_rfl
theorem fd13_0 : tfd Tryz.prog 13 0 = some (0, 9) := by kernel_rfl
theorem fo13_0 : tfo Tryz.prog 13 0 = some 0 := by kernel_rfl
theorem fd13_1 : tfd Tryz.prog 13 1 = some (1, 12) := by kernel_rfl
theorem fo13_1 : tfo Tryz.prog 13 1 = some 1 := by kernel_rfl
theorem pl13 : tpl Tryz.prog 13 = some [(0, 1), (1, 1)] := by kernel_rfl
theorem bd13 (ps : List (Nat × AV)) (K : AV → Prop) : aBuild Tryz.prog 13 ps K = aBld (tpl Tryz.prog 13) (tzc Tryz.prog 13) ps K := aBuild_eq (by rw [pl13]; rfl) ps K
theorem sz14 : tsz Tryz.prog 14 = some 2 := by kernel_rfl
theorem ag14 : tag Tryz.prog 14 = some (some 2) := by kernel_rfl
theorem zc14 : tzc Tryz.prog 14 = some [(.str ⟨#[]⟩), (.int .u64 0)] := by kernel_rfl
theorem sr14 : tsrc Tryz.prog 14 = true := by kernel_rfl
theorem fd14_0 : tfd Tryz.prog 14 0 = some (0, 9) := by kernel_rfl
theorem fo14_0 : tfo Tryz.prog 14 0 = some 0 := by kernel_rfl
theorem fd14_1 : tfd Tryz.prog 14 1 = some (1, 12) := by kernel_rfl
theorem fo14_1 : tfo Tryz.prog 14 1 = some 1 := by kernel_rfl
theorem pl14 : tpl Tryz.prog 14 = some [(0, 1), (1, 1)] := by kernel_rfl
theorem bd14 (ps : List (Nat × AV)) (K : AV → Prop) : aBuild Tryz.prog 14 ps K = aBld (tpl Tryz.prog 14) (tzc Tryz.prog 14) ps K := aBuild_eq (by rw [pl14]; rfl) ps K
theorem ni14 : tni Tryz.prog 14 = true := by kernel_rfl
theorem ta14 : tas Tryz.prog 14 = some (.agg [(.str ⟨#[]⟩), (.int .u64 0)]) := by kernel_rfl
theorem sz15 : tsz Tryz.prog 15 = some 1 := by kernel_rfl
theorem ag15 : tag Tryz.prog 15 = some none := by kernel_rfl
theorem zc15 : tzc Tryz.prog 15 = some [(.ptr none)] := by kernel_rfl
theorem sr15 : tsrc Tryz.prog 15 = true := by kernel_rfl
theorem ni15 : tni Tryz.prog 15 = true := by kernel_rfl
theorem ta15 : tas Tryz.prog 15 = some (.ptr none) := by kernel_rfl
theorem sz16 : tsz Tryz.prog 16 = some 1 := by kernel_rfl
theorem ag16 : tag Tryz.prog 16 = some none := by kernel_rfl
theorem zc16 : tzc Tryz.prog 16 = some [(.ptr none)] := by kernel_rfl
theorem sr16 : tsrc Tryz.prog 16 = true := by kernel_rfl
theorem ni16 : tni Tryz.prog 16 = true := by kernel_rfl
theorem ta16 : tas Tryz.prog 16 = some (.ptr none) := by kernel_rfl
theorem sz17 : tsz Tryz.prog 17 = some 1 := by kernel_rfl
theorem ag17 : tag Tryz.prog 17 = some none := by kernel_rfl
theorem zc17 : tzc Tryz.prog 17 = some [(.ptr none)] := by kernel_rfl
theorem sr17 : tsrc Tryz.prog 17 = true := by kernel_rfl
theorem ni17 : tni Tryz.prog 17 = true := by kernel_rfl
theorem ta17 : tas Tryz.prog 17 = some (.ptr none) := by kernel_rfl
theorem sz18 : tsz Tryz.prog 18 = some 1 := by kernel_rfl
theorem ag18 : tag Tryz.prog 18 = some (some 1) := by kernel_rfl
theorem zc18 : tzc Tryz.prog 18 = some [(.ptr none)] := by kernel_rfl
theorem sr18 : tsrc Tryz.prog 18 = true := by kernel_rfl
theorem fd18_0 : tfd Tryz.prog 18 0 = some (0, 17) := by kernel_rfl
theorem fo18_0 : tfo Tryz.prog 18 0 = some 0 := by kernel_rfl
theorem pl18 : tpl Tryz.prog 18 = some [(0, 1)] := by kernel_rfl
theorem bd18 (ps : List (Nat × AV)) (K : AV → Prop) : aBuild Tryz.prog 18 ps K = aBld (tpl Tryz.prog 18) (tzc Tryz.prog 18) ps K := aBuild_eq (by rw [pl18]; rfl) ps K
theorem sz19 : tsz Tryz.prog 19 = some 1 := by kernel_rfl
theorem ag19 : tag Tryz.prog 19 = some (some 1) := by kernel_rfl
theorem zc19 : tzc Tryz.prog 19 = some [(.ptr none)] := by kernel_rfl
theorem sr19 : tsrc Tryz.prog 19 = true := by kernel_rfl
theorem fd19_0 : tfd Tryz.prog 19 0 = some (0, 17) := by kernel_rfl
theorem fo19_0 : tfo Tryz.prog 19 0 = some 0 := by kernel_rfl
theorem pl19 : tpl Tryz.prog 19 = some [(0, 1)] := by kernel_rfl
theorem bd19 (ps : List (Nat × AV)) (K : AV → Prop) : aBuild Tryz.prog 19 ps K = aBld (tpl Tryz.prog 19) (tzc Tryz.prog 19) ps K := aBuild_eq (by rw [pl19]; rfl) ps K
theorem ni19 : tni Tryz.prog 19 = true := by kernel_rfl
theorem ta19 : tas Tryz.prog 19 = some (.agg [(.ptr none)]) := by kernel_rfl
theorem sz20 : tsz Tryz.prog 20 = some 1 := by kernel_rfl
theorem ag20 : tag Tryz.prog 20 = some none := by kernel_rfl
theorem zc20 : tzc Tryz.prog 20 = some [.nilIface] := by kernel_rfl
theorem sr20 : tsrc Tryz.prog 20 = true := by kernel_rfl
theorem if20 : tifc Tryz.prog 20 = true := by kernel_rfl
theorem sz21 : tsz Tryz.prog 21 = some 1 := by kernel_rfl
theorem ag21 : tag Tryz.prog 21 = some none := by kernel_rfl
theorem zc21 : tzc Tryz.prog 21 = some [(.int .i32 0)] := by kernel_rfl
theorem sr21 : tsrc Tryz.prog 21 = false := by kernel_rfl
theorem sz22 : tsz Tryz.prog 22 = some 1 := by kernel_rfl
theorem ag22 : tag Tryz.prog 22 = some none := by kernel_rfl
theorem zc22 : tzc Tryz.prog 22 = some [(.sl [] .full)] := by kernel_rfl
theorem sr22 : tsrc Tryz.prog 22 = true := by kernel_rfl
theorem el22 : tel Tryz.prog 22 = some (none, 13) := by kernel_rfl
theorem cu22 : tcut Tryz.prog 22 = some (some 13) := by kernel_rfl
theorem ap22 : tap Tryz.prog 22 = some (13, 184) := by kernel_rfl
theorem bs22 : tbs Tryz.prog 22 = some 13 := by kernel_rfl
theorem ms22 : tms Tryz.prog 22 = some (13, 184, [(.int .i64 0), (.int .i64 0), (.int .i64 0), (.str ⟨#[]⟩), (.sl [] .full), (.sl [] .full), (.sl [] .full), (.int .i64 0), (.int .i64 0), (.int .i64 0), (.str ⟨#[]⟩), (.sl [] .full), (.int .i64 0)], 39) := by kernel_rfl
theorem mm22 (l c : AV) (h : AH) (K : AV → AH → Prop) : aMakeSlice Tryz.prog 22 l c h K = aMkT (tms Tryz.prog 22) l c h K := aMakeSlice_eq (by rw [ms22]; rfl) l c K
theorem mc22 (x : AV) (h : AH) (K : AV → AH → Prop) : aClear Tryz.prog 22 x h K = aClT (tms Tryz.prog 22) x h K := aClear_eq (by rw [ms22]; rfl) x K
theorem mb22 (n : Nat) (ps : List (Nat × AV)) (h : AH) (K : AV → AH → Prop) : aBuildSliceM Tryz.prog 22 n ps h K = aBsM (tms Tryz.prog 22) n ps h K := aBuildSliceM_eq (by rw [ms22]; rfl) n ps K
theorem ma22 (s x : AV) (h : AH) (K : AV → AH → Prop) : aAppendM Tryz.prog 22 22 s x h K = aApM (tms Tryz.prog 22) s x h K := aAppendM_eq sr22 (by rw [ms22]; rfl) s x K
theorem ae22_22 (s x : AV) (h : AH) (K : AV → AH → Prop) : aAppend Tryz.prog 22 22 s x h K = aAp (tap Tryz.prog 22) s x h K := aAppend_eq sr22 s x K
theorem ln22 : tlen Tryz.prog 22 = some .sl := by kernel_rfl
theorem sz23 : tsz Tryz.prog 23 = some 1 := by kernel_rfl
theorem ag23 : tag Tryz.prog 23 = some none := by kernel_rfl
theorem zc23 : tzc Tryz.prog 23 = some [.nilFunc] := by kernel_rfl
theorem sr23 : tsrc Tryz.prog 23 = true := by kernel_rfl
theorem sz24 : tsz Tryz.prog 24 = some 1 := by kernel_rfl
theorem ag24 : tag Tryz.prog 24 = some none := by kernel_rfl
theorem zc24 : tzc Tryz.prog 24 = some [.nilFunc] := by kernel_rfl
theorem sr24 : tsrc Tryz.prog 24 = true := by kernel_rfl
theorem sz25 : tsz Tryz.prog 25 = some 1 := by kernel_rfl
theorem ag25 : tag Tryz.prog 25 = some none := by kernel_rfl
theorem zc25 : tzc Tryz.prog 25 = some [(.sl [] .full)] := by kernel_rfl
theorem sr25 : tsrc Tryz.prog 25 = true := by kernel_rfl
theorem el25 : tel Tryz.prog 25 = some (none, 1) := by kernel_rfl
theorem cu25 : tcut Tryz.prog 25 = some (some 1) := by kernel_rfl
theorem ap25 : tap Tryz.prog 25 = some (1, 8) := by kernel_rfl
theorem bs25 : tbs Tryz.prog 25 = some 1 := by kernel_rfl
theorem ms25 : tms Tryz.prog 25 = some (1, 8, [(.int .i64 0)], 3) := by kernel_rfl
theorem mm25 (l c : AV) (h : AH) (K : AV → AH → Prop) : aMakeSlice Tryz.prog 25 l c h K = aMkT (tms Tryz.prog 25) l c h K := aMakeSlice_eq (by rw [ms25]; rfl) l c K
theorem mc25 (x : AV) (h : AH) (K : AV → AH → Prop) : aClear Tryz.prog 25 x h K = aClT (tms Tryz.prog 25) x h K := aClear_eq (by rw [ms25]; rfl) x K
theorem mb25 (n : Nat) (ps : List (Nat × AV)) (h : AH) (K : AV → AH → Prop) : aBuildSliceM Tryz.prog 25 n ps h K = aBsM (tms Tryz.prog 25) n ps h K := aBuildSliceM_eq (by rw [ms25]; rfl) n ps K
theorem ma25 (s x : AV) (h : AH) (K : AV → AH → Prop) : aAppendM Tryz.prog 25 25 s x h K = aApM (tms Tryz.prog 25) s x h K := aAppendM_eq sr25 (by rw [ms25]; rfl) s x K
theorem ae25_25 (s x : AV) (h : AH) (K : AV → AH → Prop) : aAppend Tryz.prog 25 25 s x h K = aAp (tap Tryz.prog 25) s x h K := aAppend_eq sr25 s x K
theorem ln25 : tlen Tryz.prog 25 = some .sl := by kernel_rfl
theorem sz26 : tsz Tryz.prog 26 = some 1 := by kernel_rfl
theorem ag26 : tag Tryz.prog 26 = some none := by kernel_rfl
theorem zc26 : tzc Tryz.prog 26 = some [(.int .i64 0)] := by kernel_rfl
theorem sr26 : tsrc Tryz.prog 26 = false := by kernel_rfl
theorem ni26 : tni Tryz.prog 26 = true := by kernel_rfl
theorem ta26 : tas Tryz.prog 26 = some (.int .i64 0) := by kernel_rfl
theorem sz28 : tsz Tryz.prog 28 = some 1 := by kernel_rfl
theorem ag28 : tag Tryz.prog 28 = some none := by kernel_rfl
theorem zc28 : tzc Tryz.prog 28 = some [.nilFunc] := by kernel_rfl
theorem sr28 : tsrc Tryz.prog 28 = true := by kernel_rfl
theorem sz29 : tsz Tryz.prog 29 = some 1 := by kernel_rfl
theorem ag29 : tag Tryz.prog 29 = some none := by kernel_rfl
theorem zc29 : tzc Tryz.prog 29 = some [.nilFunc] := by kernel_rfl
theorem sr29 : tsrc Tryz.prog 29 = true := by kernel_rfl
theorem sz30 : tsz Tryz.prog 30 = some 1 := by kernel_rfl
theorem ag30 : tag Tryz.prog 30 = some none := by kernel_rfl
theorem zc30 : tzc Tryz.prog 30 = some [.nilFunc] := by kernel_rfl
theorem sr30 : tsrc Tryz.prog 30 = true := by kernel_rfl
theorem sz31 : tsz Tryz.prog 31 = some 1 := by kernel_rfl
theorem ag31 : tag Tryz.prog 31 = some none := by kernel_rfl
theorem zc31 : tzc Tryz.prog 31 = some [(.sl [] .full)] := by kernel_rfl
theorem sr31 : tsrc Tryz.prog 31 = true := by kernel_rfl
theorem el31 : tel Tryz.prog 31 = some (none, 1) := by kernel_rfl
theorem cu31 : tcut Tryz.prog 31 = some (some 1) := by kernel_rfl
theorem ap31 : tap Tryz.prog 31 = some (1, 16) := by kernel_rfl
theorem bs31 : tbs Tryz.prog 31 = some 1 := by kernel_rfl
theorem ms31 : tms Tryz.prog 31 = some (1, 16, [(.str ⟨#[]⟩)], 9) := by kernel_rfl
theorem mm31 (l c : AV) (h : AH) (K : AV → AH → Prop) : aMakeSlice Tryz.prog 31 l c h K = aMkT (tms Tryz.prog 31) l c h K := aMakeSlice_eq (by rw [ms31]; rfl) l c K
theorem mc31 (x : AV) (h : AH) (K : AV → AH → Prop) : aClear Tryz.prog 31 x h K = aClT (tms Tryz.prog 31) x h K := aClear_eq (by rw [ms31]; rfl) x K
theorem mb31 (n : Nat) (ps : List (Nat × AV)) (h : AH) (K : AV → AH → Prop) : aBuildSliceM Tryz.prog 31 n ps h K = aBsM (tms Tryz.prog 31) n ps h K := aBuildSliceM_eq (by rw [ms31]; rfl) n ps K
theorem ma31 (s x : AV) (h : AH) (K : AV → AH → Prop) : aAppendM Tryz.prog 31 31 s x h K = aApM (tms Tryz.prog 31) s x h K := aAppendM_eq sr31 (by rw [ms31]; rfl) s x K
theorem ae31_31 (s x : AV) (h : AH) (K : AV → AH → Prop) : aAppend Tryz.prog 31 31 s x h K = aAp (tap Tryz.prog 31) s x h K := aAppend_eq sr31 s x K
theorem ln31 : tlen Tryz.prog 31 = some .sl := by kernel_rfl
theorem sz32 : tsz Tryz.prog 32 = some 1 := by kernel_rfl
theorem ag32 : tag Tryz.prog 32 = some none := by kernel_rfl
theorem zc32 : tzc Tryz.prog 32 = some [(.sl [] .full)] := by kernel_rfl
theorem sr32 : tsrc Tryz.prog 32 = true := by kernel_rfl
theorem el32 : tel Tryz.prog 32 = some (none, 8) := by kernel_rfl
theorem cu32 : tcut Tryz.prog 32 = some (some 8) := by kernel_rfl
theorem ap32 : tap Tryz.prog 32 = some (8, 96) := by kernel_rfl
theorem bs32 : tbs Tryz.prog 32 = some 8 := by kernel_rfl
theorem ms32 : tms Tryz.prog 32 = some (8, 96, [(.str ⟨#[]⟩), (.int .i64 0), (.int .i64 0), (.int .i64 0), (.int .i64 0), (.int .i64 0), (.str ⟨#[]⟩), (.sl [] .full)], 60) := by kernel_rfl
theorem mm32 (l c : AV) (h : AH) (K : AV → AH → Prop) : aMakeSlice Tryz.prog 32 l c h K = aMkT (tms Tryz.prog 32) l c h K := aMakeSlice_eq (by rw [ms32]; rfl) l c K
theorem mc32 (x : AV) (h : AH) (K : AV → AH → Prop) : aClear Tryz.prog 32 x h K = aClT (tms Tryz.prog 32) x h K := aClear_eq (by rw [ms32]; rfl) x K
theorem mb32 (n : Nat) (ps : List (Nat × AV)) (h : AH) (K : AV → AH → Prop) : aBuildSliceM Tryz.prog 32 n ps h K = aBsM (tms Tryz.prog 32) n ps h K := aBuildSliceM_eq (by rw [ms32]; rfl) n ps K
theorem ma32 (s x : AV) (h : AH) (K : AV → AH → Prop) : aAppendM Tryz.prog 32 32 s x h K = aApM (tms Tryz.prog 32) s x h K := aAppendM_eq sr32 (by rw [ms32]; rfl) s x K
theorem ae32_32 (s x : AV) (h : AH) (K : AV → AH → Prop) : aAppend Tryz.prog 32 32 s x h K = aAp (tap Tryz.prog 32) s x h K := aAppend_eq sr32 s x K
theorem ln32 : tlen Tryz.prog 32 = some .sl := by kernel_rfl
theorem sz33 : tsz Tryz.prog 33 = some 1 := by kernel_rfl
theorem ag33 : tag Tryz.prog 33 = some none := by kernel_rfl
theorem zc33 : tzc Tryz.prog 33 = some [(.sl [] .full)] := by kernel_rfl
theorem sr33 : tsrc Tryz.prog 33 = true := by kernel_rfl
theorem el33 : tel Tryz.prog 33 = some (none, 5) := by kernel_rfl
theorem cu33 : tcut Tryz.prog 33 = some (some 5) := by kernel_rfl
theorem ap33 : tap Tryz.prog 33 = some (5, 64) := by kernel_rfl
theorem bs33 : tbs Tryz.prog 33 = some 5 := by kernel_rfl
theorem ms33 : tms Tryz.prog 33 = some (5, 64, [(.int .i64 0), (.int .i64 0), (.int .i64 0), (.str ⟨#[]⟩), (.sl [] .full)], 35) := by kernel_rfl
theorem mm33 (l c : AV) (h : AH) (K : AV → AH → Prop) : aMakeSlice Tryz.prog 33 l c h K = aMkT (tms Tryz.prog 33) l c h K := aMakeSlice_eq (by rw [ms33]; rfl) l c K
theorem mc33 (x : AV) (h : AH) (K : AV → AH → Prop) : aClear Tryz.prog 33 x h K = aClT (tms Tryz.prog 33) x h K := aClear_eq (by rw [ms33]; rfl) x K
theorem mb33 (n : Nat) (ps : List (Nat × AV)) (h : AH) (K : AV → AH → Prop) : aBuildSliceM Tryz.prog 33 n ps h K = aBsM (tms Tryz.prog 33) n ps h K := aBuildSliceM_eq (by rw [ms33]; rfl) n ps K
theorem ma33 (s x : AV) (h : AH) (K : AV → AH → Prop) : aAppendM Tryz.prog 33 33 s x h K = aApM (tms Tryz.prog 33) s x h K := aAppendM_eq sr33 (by rw [ms33]; rfl) s x K
theorem ae33_33 (s x : AV) (h : AH) (K : AV → AH → Prop) : aAppend Tryz.prog 33 33 s x h K = aAp (tap Tryz.prog 33) s x h K := aAppend_eq sr33 s x K
theorem ln33 : tlen Tryz.prog 33 = some .sl := by kernel_rfl
theorem sz34 : tsz Tryz.prog 34 = some 5 := by kernel_rfl
theorem ag34 : tag Tryz.prog 34 = some (some 5) := by kernel_rfl
theorem zc34 : tzc Tryz.prog 34 = some [(.int .i64 0), (.int .i64 0), (.int .i64 0), (.str ⟨#[]⟩), (.sl [] .full)] := by kernel_rfl
theorem sr34 : tsrc Tryz.prog 34 = true := by kernel_rfl
theorem fd34_0 : tfd Tryz.prog 34 0 = some (0, 3) := by kernel_rfl
theorem fo34_0 : tfo Tryz.prog 34 0 = some 0 := by kernel_rfl
theorem fd34_1 : tfd Tryz.prog 34 1 = some (1, 3) := by kernel_rfl
theorem fo34_1 : tfo Tryz.prog 34 1 = some 1 := by kernel_rfl
theorem fd34_2 : tfd Tryz.prog 34 2 = some (2, 3) := by kernel_rfl
theorem fo34_2 : tfo Tryz.prog 34 2 = some 2 := by kernel_rfl
theorem fd34_3 : tfd Tryz.prog 34 3 = some (3, 9) := by kernel_rfl
theorem fo34_3 : tfo Tryz.prog 34 3 = some 3 := by kernel_rfl
theorem fd34_4 : tfd Tryz.prog 34 4 = some (4, 33) := by kernel_rfl
theorem fo34_4 : tfo Tryz.prog 34 4 = some 4 := by kernel_rfl
theorem pl34 : tpl Tryz.prog 34 = some [(0, 1), (1, 1), (2, 1), (3, 1), (4, 1)] := by kernel_rfl
theorem bd34 (ps : List (Nat × AV)) (K : AV → Prop) : aBuild Tryz.prog 34 ps K = aBld (tpl Tryz.prog 34) (tzc Tryz.prog 34) ps K := aBuild_eq (by rw [pl34]; rfl) ps K
theorem sz35 : tsz Tryz.prog 35 = some 5 := by kernel_rfl
theorem ag35 : tag Tryz.prog 35 = some (some 5) := by kernel_rfl
theorem zc35 : tzc Tryz.prog 35 = some [(.int .i64 0), (.int .i64 0), (.int .i64 0), (.str ⟨#[]⟩), (.sl [] .full)] := by kernel_rfl
theorem sr35 : tsrc Tryz.prog 35 = true := by kernel_rfl
theorem fd35_0 : tfd Tryz.prog 35 0 = some (0, 3) := by kernel_rfl
theorem fo35_0 : tfo Tryz.prog 35 0 = some 0 := by kernel_rfl
theorem fd35_1 : tfd Tryz.prog 35 1 = some (1, 3) := by kernel_rfl
theorem fo35_1 : tfo Tryz.prog 35 1 = some 1 := by kernel_rfl
theorem fd35_2 : tfd Tryz.prog 35 2 = some (2, 3) := by kernel_rfl
theorem fo35_2 : tfo Tryz.prog 35 2 = some 2 := by kernel_rfl
theorem fd35_3 : tfd Tryz.prog 35 3 = some (3, 9) := by kernel_rfl
theorem fo35_3 : tfo Tryz.prog 35 3 = some 3 := by kernel_rfl
theorem fd35_4 : tfd Tryz.prog 35 4 = some (4, 33) := by kernel_rfl
theorem fo35_4 : tfo Tryz.prog 35 4 = some 4 := by kernel_rfl
theorem pl35 : tpl Tryz.prog 35 = some [(0, 1), (1, 1), (2, 1), (3, 1), (4, 1)] := by kernel_rfl
theorem bd35 (ps : List (Nat × AV)) (K : AV → Prop) : aBuild Tryz.prog 35 ps K = aBld (tpl Tryz.prog 35) (tzc Tryz.prog 35) ps K := aBuild_eq (by rw [pl35]; rfl) ps K
theorem ni35 : tni Tryz.prog 35 = true := by kernel_rfl
theorem ta35 : tas Tryz.prog 35 = some (.agg [(.int .i64 0), (.int .i64 0), (.int .i64 0), (.str ⟨#[]⟩), (.sl [] .full)]) := by kernel_rfl
theorem sz36 : tsz Tryz.prog 36 = some 10 := by kernel_rfl
theorem ag36 : tag Tryz.prog 36 = some (some 10) := by kernel_rfl
theorem zc36 : tzc Tryz.prog 36 = some [(.str ⟨#[]⟩), (.sl [] .full), (.sl [] .full), (.sl [] .full), (.int .i64 0), (.int .i64 0), (.int .i64 0), (.str ⟨#[]⟩), (.sl [] .full), (.int .i64 0)] := by kernel_rfl
theorem sr36 : tsrc Tryz.prog 36 = true := by kernel_rfl
theorem fd36_0 : tfd Tryz.prog 36 0 = some (0, 9) := by kernel_rfl
theorem fo36_0 : tfo Tryz.prog 36 0 = some 0 := by kernel_rfl
theorem fd36_1 : tfd Tryz.prog 36 1 = some (1, 31) := by kernel_rfl
theorem fo36_1 : tfo Tryz.prog 36 1 = some 1 := by kernel_rfl
theorem fd36_2 : tfd Tryz.prog 36 2 = some (2, 31) := by kernel_rfl
theorem fo36_2 : tfo Tryz.prog 36 2 = some 2 := by kernel_rfl
theorem fd36_3 : tfd Tryz.prog 36 3 = some (3, 32) := by kernel_rfl
theorem fo36_3 : tfo Tryz.prog 36 3 = some 3 := by kernel_rfl
theorem fd36_4 : tfd Tryz.prog 36 4 = some (4, 35) := by kernel_rfl
theorem fo36_4 : tfo Tryz.prog 36 4 = some 4 := by kernel_rfl
theorem fd36_5 : tfd Tryz.prog 36 5 = some (9, 3) := by kernel_rfl
theorem fo36_5 : tfo Tryz.prog 36 5 = some 9 := by kernel_rfl
theorem pl36 : tpl Tryz.prog 36 = some [(0, 1), (1, 1), (2, 1), (3, 1), (4, 5), (9, 1)] := by kernel_rfl
theorem bd36 (ps : List (Nat × AV)) (K : AV → Prop) : aBuild Tryz.prog 36 ps K = aBld (tpl Tryz.prog 36) (tzc Tryz.prog 36) ps K := aBuild_eq (by rw [pl36]; rfl) ps K
theorem sz37 : tsz Tryz.prog 37 = some 10 := by kernel_rfl
theorem ag37 : tag Tryz.prog 37 = some (some 10) := by kernel_rfl
theorem zc37 : tzc Tryz.prog 37 = some [(.str ⟨#[]⟩), (.sl [] .full), (.sl [] .full), (.sl [] .full), (.int .i64 0), (.int .i64 0), (.int .i64 0), (.str ⟨#[]⟩), (.sl [] .full), (.int .i64 0)] := by kernel_rfl
theorem sr37 : tsrc Tryz.prog 37 = true := by kernel_rfl
theorem fd37_0 : tfd Tryz.prog 37 0 = some (0, 9) := by kernel_rfl
theorem fo37_0 : tfo Tryz.prog 37 0 = some 0 := by kernel_rfl
theorem fd37_1 : tfd Tryz.prog 37 1 = some (1, 31) := by kernel_rfl
theorem fo37_1 : tfo Tryz.prog 37 1 = some 1 := by kernel_rfl
theorem fd37_2 : tfd Tryz.prog 37 2 = some (2, 31) := by kernel_rfl
theorem fo37_2 : tfo Tryz.prog 37 2 = some 2 := by kernel_rfl
theorem fd37_3 : tfd Tryz.prog 37 3 = some (3, 32) := by kernel_rfl
theorem fo37_3 : tfo Tryz.prog 37 3 = some 3 := by kernel_rfl
theorem fd37_4 : tfd Tryz.prog 37 4 = some (4, 35) := by kernel_rfl
theorem fo37_4 : tfo Tryz.prog 37 4 = some 4 := by kernel_rfl
theorem fd37_5 : tfd Tryz.prog 37 5 = some (9, 3) := by kernel_rfl
theorem fo37_5 : tfo Tryz.prog 37 5 = some 9 := by kernel_rfl
theorem pl37 : tpl Tryz.prog 37 = some [(0, 1), (1, 1), (2, 1), (3, 1), (4, 5), (9, 1)] := by kernel_rfl
theorem bd37 (ps : List (Nat × AV)) (K : AV → Prop) : aBuild Tryz.prog 37 ps K = aBld (tpl Tryz.prog 37) (tzc Tryz.prog 37) ps K := aBuild_eq (by rw [pl37]; rfl) ps K
theorem ni37 : tni Tryz.prog 37 = true := by kernel_rfl
theorem ta37 : tas Tryz.prog 37 = some (.agg [(.str ⟨#[]⟩), (.sl [] .full), (.sl [] .full), (.sl [] .full), (.int .i64 0), (.int .i64 0), (.int .i64 0), (.str ⟨#[]⟩), (.sl [] .full), (.int .i64 0)]) := by kernel_rfl
theorem sz38 : tsz Tryz.prog 38 = some 13 := by kernel_rfl
theorem ag38 : tag Tryz.prog 38 = some (some 13) := by kernel_rfl
theorem zc38 : tzc Tryz.prog 38 = some [(.int .i64 0), (.int .i64 0), (.int .i64 0), (.str ⟨#[]⟩), (.sl [] .full), (.sl [] .full), (.sl [] .full), (.int .i64 0), (.int .i64 0), (.int .i64 0), (.str ⟨#[]⟩), (.sl [] .full), (.int .i64 0)] := by kernel_rfl
theorem sr38 : tsrc Tryz.prog 38 = true := by kernel_rfl
theorem fd38_0 : tfd Tryz.prog 38 0 = some (0, 3) := by kernel_rfl
theorem fo38_0 : tfo Tryz.prog 38 0 = some 0 := by kernel_rfl
theorem fd38_1 : tfd Tryz.prog 38 1 = some (1, 3) := by kernel_rfl
theorem fo38_1 : tfo Tryz.prog 38 1 = some 1 := by kernel_rfl
theorem fd38_2 : tfd Tryz.prog 38 2 = some (2, 3) := by kernel_rfl
theorem fo38_2 : tfo Tryz.prog 38 2 = some 2 := by kernel_rfl
theorem fd38_3 : tfd Tryz.prog 38 3 = some (3, 37) := by kernel_rfl
theorem fo38_3 : tfo Tryz.prog 38 3 = some 3 := by kernel_rfl
theorem pl38 : tpl Tryz.prog 38 = some [(0, 1), (1, 1), (2, 1), (3, 10)] := by kernel_rfl
theorem bd38 (ps : List (Nat × AV)) (K : AV → Prop) : aBuild Tryz.prog 38 ps K = aBld (tpl Tryz.prog 38) (tzc Tryz.prog 38) ps K := aBuild_eq (by rw [pl38]; rfl) ps K
theorem sz39 : tsz Tryz.prog 39 = some 13 := by kernel_rfl
theorem ag39 : tag Tryz.prog 39 = some (some 13) := by kernel_rfl
theorem zc39 : tzc Tryz.prog 39 = some [(.int .i64 0), (.int .i64 0), (.int .i64 0), (.str ⟨#[]⟩), (.sl [] .full), (.sl [] .full), (.sl [] .full), (.int .i64 0), (.int .i64 0), (.int .i64 0), (.str ⟨#[]⟩), (.sl [] .full), (.int .i64 0)] := by kernel_rfl
theorem sr39 : tsrc Tryz.prog 39 = true := by kernel_rfl
theorem fd39_0 : tfd Tryz.prog 39 0 = some (0, 3) := by kernel_rfl
theorem fo39_0 : tfo Tryz.prog 39 0 = some 0 := by kernel_rfl
theorem fd39_1 : tfd Tryz.prog 39 1 = some (1, 3) := by kernel_rfl
theorem fo39_1 : tfo Tryz.prog 39 1 = some 1 := by kernel_rfl
theorem fd39_2 : tfd Tryz.prog 39 2 = some (2, 3) := by kernel_rfl
theorem fo39_2 : tfo Tryz.prog 39 2 = some 2 := by kernel_rfl
theorem fd39_3 : tfd Tryz.prog 39 3 = some (3, 37) := by kernel_rfl
theorem fo39_3 : tfo Tryz.prog 39 3 = some 3 := by kernel_rfl
theorem pl39 : tpl Tryz.prog 39 = some [(0, 1), (1, 1), (2, 1), (3, 10)] := by kernel_rfl
theorem bd39 (ps : List (Nat × AV)) (K : AV → Prop) : aBuild Tryz.prog 39 ps K = aBld (tpl Tryz.prog 39) (tzc Tryz.prog 39) ps K := aBuild_eq (by rw [pl39]; rfl) ps K
theorem ni39 : tni Tryz.prog 39 = true := by kernel_rfl
theorem ta39 : tas Tryz.prog 39 = some (.agg [(.int .i64 0), (.int .i64 0), (.int .i64 0), (.str ⟨#[]⟩), (.sl [] .full), (.sl [] .full), (.sl [] .full), (.int .i64 0), (.int .i64 0), (.int .i64 0), (.str ⟨#[]⟩), (.sl [] .full), (.int .i64 0)]) := by kernel_rfl
theorem sz40 : tsz Tryz.prog 40 = some 1 := by kernel_rfl
theorem ag40 : tag Tryz.prog 40 = some none := by kernel_rfl
theorem zc40 : tzc Tryz.prog 40 = some [.nilFunc] := by kernel_rfl
theorem sr40 : tsrc Tryz.prog 40 = true := by kernel_rfl
theorem sz42 : tsz Tryz.prog 42 = some 1 := by kernel_rfl
theorem ag42 : tag Tryz.prog 42 = some none := by kernel_rfl
theorem zc42 : tzc Tryz.prog 42 = some [.nilFunc] := by kernel_rfl
theorem sr42 : tsrc Tryz.prog 42 = true := by kernel_rfl
theorem sz43 : tsz Tryz.prog 43 = some 1 := by kernel_rfl
theorem ag43 : tag Tryz.prog 43 = some none := by kernel_rfl
theorem zc43 : tzc Tryz.prog 43 = some [(.sl [] .full)] := by kernel_rfl
theorem sr43 : tsrc Tryz.prog 43 = true := by kernel_rfl
theorem el43 : tel Tryz.prog 43 = some (none, 1) := by kernel_rfl
theorem cu43 : tcut Tryz.prog 43 = some (some 1) := by kernel_rfl
theorem ap43 : tap Tryz.prog 43 = some (1, 1) := by kernel_rfl
theorem bs43 : tbs Tryz.prog 43 = some 1 := by kernel_rfl
theorem ms43 : tms Tryz.prog 43 = some (1, 1, [(.bool false)], 4) := by kernel_rfl
theorem mm43 (l c : AV) (h : AH) (K : AV → AH → Prop) : aMakeSlice Tryz.prog 43 l c h K = aMkT (tms Tryz.prog 43) l c h K := aMakeSlice_eq (by rw [ms43]; rfl) l c K
theorem mc43 (x : AV) (h : AH) (K : AV → AH → Prop) : aClear Tryz.prog 43 x h K = aClT (tms Tryz.prog 43) x h K := aClear_eq (by rw [ms43]; rfl) x K
theorem mb43 (n : Nat) (ps : List (Nat × AV)) (h : AH) (K : AV → AH → Prop) : aBuildSliceM Tryz.prog 43 n ps h K = aBsM (tms Tryz.prog 43) n ps h K := aBuildSliceM_eq (by rw [ms43]; rfl) n ps K
theorem ma43 (s x : AV) (h : AH) (K : AV → AH → Prop) : aAppendM Tryz.prog 43 43 s x h K = aApM (tms Tryz.prog 43) s x h K := aAppendM_eq sr43 (by rw [ms43]; rfl) s x K
theorem ae43_43 (s x : AV) (h : AH) (K : AV → AH → Prop) : aAppend Tryz.prog 43 43 s x h K = aAp (tap Tryz.prog 43) s x h K := aAppend_eq sr43 s x K
theorem ln43 : tlen Tryz.prog 43 = some .sl := by kernel_rfl
theorem sz45 : tsz Tryz.prog 45 = some 1 := by kernel_rfl
theorem ag45 : tag Tryz.prog 45 = some none := by kernel_rfl
theorem zc45 : tzc Tryz.prog 45 = some [.nilFunc] := by kernel_rfl
theorem sr45 : tsrc Tryz.prog 45 = true := by kernel_rfl
theorem sz46 : tsz Tryz.prog 46 = some 1 := by kernel_rfl
theorem ag46 : tag Tryz.prog 46 = some none := by kernel_rfl
theorem zc46 : tzc Tryz.prog 46 = some [.nilFunc] := by kernel_rfl
theorem sr46 : tsrc Tryz.prog 46 = true := by kernel_rfl
theorem sz47 : tsz Tryz.prog 47 = some 1 := by kernel_rfl
theorem ag47 : tag Tryz.prog 47 = some none := by kernel_rfl
theorem zc47 : tzc Tryz.prog 47 = some [.nilFunc] := by kernel_rfl
theorem sr47 : tsrc Tryz.prog 47 = true := by kernel_rfl
theorem sz48 : tsz Tryz.prog 48 = some 1 := by kernel_rfl
theorem ag48 : tag Tryz.prog 48 = some none := by kernel_rfl
theorem zc48 : tzc Tryz.prog 48 = some [.nilFunc] := by kernel_rfl
theorem sr48 : tsrc Tryz.prog 48 = true := by kernel_rfl
theorem sz49 : tsz Tryz.prog 49 = some 1 := by kernel_rfl
theorem ag49 : tag Tryz.prog 49 = some none := by kernel_rfl
theorem zc49 : tzc Tryz.prog 49 = some [.nilFunc] := by kernel_rfl
theorem sr49 : tsrc Tryz.prog 49 = true := by kernel_rfl
theorem sz50 : tsz Tryz.prog 50 = some 1 := by kernel_rfl
theorem ag50 : tag Tryz.prog 50 = some none := by kernel_rfl
theorem zc50 : tzc Tryz.prog 50 = some [.nilFunc] := by kernel_rfl
theorem sr50 : tsrc Tryz.prog 50 = true := by kernel_rfl
theorem sz51 : tsz Tryz.prog 51 = some 1 := by kernel_rfl
theorem ag51 : tag Tryz.prog 51 = some none := by kernel_rfl
theorem zc51 : tzc Tryz.prog 51 = some [.nilFunc] := by kernel_rfl
theorem sr51 : tsrc Tryz.prog 51 = true := by kernel_rfl
theorem sz52 : tsz Tryz.prog 52 = some 1 := by kernel_rfl
theorem ag52 : tag Tryz.prog 52 = some none := by kernel_rfl
theorem zc52 : tzc Tryz.prog 52 = some [.nilFunc] := by kernel_rfl
theorem sr52 : tsrc Tryz.prog 52 = true := by kernel_rfl
theorem sz53 : tsz Tryz.prog 53 = some 1 := by kernel_rfl
theorem ag53 : tag Tryz.prog 53 = some none := by kernel_rfl
theorem zc53 : tzc Tryz.prog 53 = some [.nilFunc] := by kernel_rfl
theorem sr53 : tsrc Tryz.prog 53 = true := by kernel_rfl
theorem sz54 : tsz Tryz.prog 54 = some 1 := by kernel_rfl
theorem ag54 : tag Tryz.prog 54 = some none := by kernel_rfl
theorem zc54 : tzc Tryz.prog 54 = some [(.map none)] := by kernel_rfl
theorem sr54 : tsrc Tryz.prog 54 = true := by kernel_rfl
theorem ln54 : tlen Tryz.prog 54 = some .map := by kernel_rfl
theorem mk54 : tmk Tryz.prog 54 = some (true, .nilFunc) := by kernel_rfl
theorem sz55 : tsz Tryz.prog 55 = some 1 := by kernel_rfl
theorem ag55 : tag Tryz.prog 55 = some none := by kernel_rfl
theorem zc55 : tzc Tryz.prog 55 = some [.nilFunc] := by kernel_rfl
theorem sr55 : tsrc Tryz.prog 55 = true := by kernel_rfl
theorem sz56 : tsz Tryz.prog 56 = some 1 := by kernel_rfl
theorem ag56 : tag Tryz.prog 56 = some none := by kernel_rfl
theorem zc56 : tzc Tryz.prog 56 = some [.nilFunc] := by kernel_rfl
theorem sr56 : tsrc Tryz.prog 56 = true := by kernel_rfl
theorem sz57 : tsz Tryz.prog 57 = some 1 := by kernel_rfl
theorem ag57 : tag Tryz.prog 57 = some none := by kernel_rfl
theorem zc57 : tzc Tryz.prog 57 = some [.nilFunc] := by kernel_rfl
theorem sr57 : tsrc Tryz.prog 57 = true := by kernel_rfl
theorem sz58 : tsz Tryz.prog 58 = some 1 := by kernel_rfl
theorem ag58 : tag Tryz.prog 58 = some none := by kernel_rfl
theorem zc58 : tzc Tryz.prog 58 = some [.nilFunc] := by kernel_rfl
theorem sr58 : tsrc Tryz.prog 58 = true := by kernel_rfl
theorem sz59 : tsz Tryz.prog 59 = some 8 := by kernel_rfl
theorem ag59 : tag Tryz.prog 59 = some (some 8) := by kernel_rfl
theorem zc59 : tzc Tryz.prog 59 = some [(.str ⟨#[]⟩), (.int .i64 0), (.int .i64 0), (.int .i64 0), (.int .i64 0), (.int .i64 0), (.str ⟨#[]⟩), (.sl [] .full)] := by kernel_rfl
theorem sr59 : tsrc Tryz.prog 59 = true := by kernel_rfl
theorem fd59_0 : tfd Tryz.prog 59 0 = some (0, 9) := by kernel_rfl
theorem fo59_0 : tfo Tryz.prog 59 0 = some 0 := by kernel_rfl
theorem fd59_1 : tfd Tryz.prog 59 1 = some (1, 3) := by kernel_rfl
theorem fo59_1 : tfo Tryz.prog 59 1 = some 1 := by kernel_rfl
theorem fd59_2 : tfd Tryz.prog 59 2 = some (2, 3) := by kernel_rfl
theorem fo59_2 : tfo Tryz.prog 59 2 = some 2 := by kernel_rfl
theorem fd59_3 : tfd Tryz.prog 59 3 = some (3, 35) := by kernel_rfl
theorem fo59_3 : tfo Tryz.prog 59 3 = some 3 := by kernel_rfl
theorem pl59 : tpl Tryz.prog 59 = some [(0, 1), (1, 1), (2, 1), (3, 5)] := by kernel_rfl
theorem bd59 (ps : List (Nat × AV)) (K : AV → Prop) : aBuild Tryz.prog 59 ps K = aBld (tpl Tryz.prog 59) (tzc Tryz.prog 59) ps K := aBuild_eq (by rw [pl59]; rfl) ps K
theorem sz60 : tsz Tryz.prog 60 = some 8 := by kernel_rfl
theorem ag60 : tag Tryz.prog 60 = some (some 8) := by kernel_rfl
theorem zc60 : tzc Tryz.prog 60 = some [(.str ⟨#[]⟩), (.int .i64 0), (.int .i64 0), (.int .i64 0), (.int .i64 0), (.int .i64 0), (.str ⟨#[]⟩), (.sl [] .full)] := by kernel_rfl
theorem sr60 : tsrc Tryz.prog 60 = true := by kernel_rfl
theorem fd60_0 : tfd Tryz.prog 60 0 = some (0, 9) := by kernel_rfl
theorem fo60_0 : tfo Tryz.prog 60 0 = some 0 := by kernel_rfl
theorem fd60_1 : tfd Tryz.prog 60 1 = some (1, 3) := by kernel_rfl
theorem fo60_1 : tfo Tryz.prog 60 1 = some 1 := by kernel_rfl
theorem fd60_2 : tfd Tryz.prog 60 2 = some (2, 3) := by kernel_rfl
theorem fo60_2 : tfo Tryz.prog 60 2 = some 2 := by kernel_rfl
theorem fd60_3 : tfd Tryz.prog 60 3 = some (3, 35) := by kernel_rfl
theorem fo60_3 : tfo Tryz.prog 60 3 = some 3 := by kernel_rfl
theorem pl60 : tpl Tryz.prog 60 = some [(0, 1), (1, 1), (2, 1), (3, 5)] := by kernel_rfl
theorem bd60 (ps : List (Nat × AV)) (K : AV → Prop) : aBuild Tryz.prog 60 ps K = aBld (tpl Tryz.prog 60) (tzc Tryz.prog 60) ps K := aBuild_eq (by rw [pl60]; rfl) ps K
theorem ni60 : tni Tryz.prog 60 = true := by kernel_rfl
theorem ta60 : tas Tryz.prog 60 = some (.agg [(.str ⟨#[]⟩), (.int .i64 0), (.int .i64 0), (.int .i64 0), (.int .i64 0), (.int .i64 0), (.str ⟨#[]⟩), (.sl [] .full)]) := by kernel_rfl
theorem sz61 : tsz Tryz.prog 61 = some 1 := by kernel_rfl
theorem ag61 : tag Tryz.prog 61 = some none := by kernel_rfl
theorem zc61 : tzc Tryz.prog 61 = some [.nilFunc] := by kernel_rfl
theorem sr61 : tsrc Tryz.prog 61 = true := by kernel_rfl
theorem sz62 : tsz Tryz.prog 62 = some 1 := by kernel_rfl
theorem ag62 : tag Tryz.prog 62 = some none := by kernel_rfl
theorem zc62 : tzc Tryz.prog 62 = some [.nilFunc] := by kernel_rfl
theorem sr62 : tsrc Tryz.prog 62 = true := by kernel_rfl
theorem sz63 : tsz Tryz.prog 63 = some 1 := by kernel_rfl
theorem ag63 : tag Tryz.prog 63 = some none := by kernel_rfl
theorem zc63 : tzc Tryz.prog 63 = some [.nilFunc] := by kernel_rfl
theorem sr63 : tsrc Tryz.prog 63 = true := by kernel_rfl
theorem sz64 : tsz Tryz.prog 64 = some 1 := by kernel_rfl
theorem ag64 : tag Tryz.prog 64 = some none := by kernel_rfl
theorem zc64 : tzc Tryz.prog 64 = some [.nilFunc] := by kernel_rfl
theorem sr64 : tsrc Tryz.prog 64 = true := by kernel_rfl
theorem sz65 : tsz Tryz.prog 65 = some 1 := by kernel_rfl
theorem ag65 : tag Tryz.prog 65 = some none := by kernel_rfl
theorem zc65 : tzc Tryz.prog 65 = some [.nilFunc] := by kernel_rfl
theorem sr65 : tsrc Tryz.prog 65 = true := by kernel_rfl
theorem sz66 : tsz Tryz.prog 66 = some 1 := by kernel_rfl
theorem ag66 : tag Tryz.prog 66 = some none := by kernel_rfl
theorem zc66 : tzc Tryz.prog 66 = some [.nilFunc] := by kernel_rfl
theorem sr66 : tsrc Tryz.prog 66 = true := by kernel_rfl
theorem sz67 : tsz Tryz.prog 67 = some 1 := by kernel_rfl
theorem ag67 : tag Tryz.prog 67 = some none := by kernel_rfl
theorem zc67 : tzc Tryz.prog 67 = some [.nilFunc] := by kernel_rfl
theorem sr67 : tsrc Tryz.prog 67 = true := by kernel_rfl
theorem sz68 : tsz Tryz.prog 68 = some 1 := by kernel_rfl
theorem ag68 : tag Tryz.prog 68 = some none := by kernel_rfl
theorem zc68 : tzc Tryz.prog 68 = some [.nilFunc] := by kernel_rfl
theorem sr68 : tsrc Tryz.prog 68 = true := by kernel_rfl
theorem sz69 : tsz Tryz.prog 69 = some 1 := by kernel_rfl
theorem ag69 : tag Tryz.prog 69 = some none := by kernel_rfl
theorem zc69 : tzc Tryz.prog 69 = some [(.map none)] := by kernel_rfl
theorem sr69 : tsrc Tryz.prog 69 = true := by kernel_rfl
theorem ln69 : tlen Tryz.prog 69 = some .map := by kernel_rfl
theorem mk69 : tmk Tryz.prog 69 = some (true, (.agg [(.int .i64 0), (.int .i64 0), (.int .i64 0), (.str ⟨#[]⟩), (.sl [] .full), (.sl [] .full), (.sl [] .full), (.int .i64 0), (.int .i64 0), (.int .i64 0), (.str ⟨#[]⟩), (.sl [] .full), (.int .i64 0)])) := by kernel_rfl
theorem sz70 : tsz Tryz.prog 70 = some 1 := by kernel_rfl
theorem ag70 : tag Tryz.prog 70 = some none := by kernel_rfl
theorem zc70 : tzc Tryz.prog 70 = some [.nilFunc] := by kernel_rfl
theorem sr70 : tsrc Tryz.prog 70 = true := by kernel_rfl
theorem sz71 : tsz Tryz.prog 71 = some 1 := by kernel_rfl
theorem ag71 : tag Tryz.prog 71 = some none := by kernel_rfl
theorem zc71 : tzc Tryz.prog 71 = some [.nilFunc] := by kernel_rfl
theorem sr71 : tsrc Tryz.prog 71 = true := by kernel_rfl
theorem sz72 : tsz Tryz.prog 72 = some 1 := by kernel_rfl
theorem ag72 : tag Tryz.prog 72 = some none := by kernel_rfl
theorem zc72 : tzc Tryz.prog 72 = some [.nilFunc] := by kernel_rfl
theorem sr72 : tsrc Tryz.prog 72 = true := by kernel_rfl
theorem sz73 : tsz Tryz.prog 73 = some 1 := by kernel_rfl
theorem ag73 : tag Tryz.prog 73 = some none := by kernel_rfl
theorem zc73 : tzc Tryz.prog 73 = some [.nilFunc] := by kernel_rfl
theorem sr73 : tsrc Tryz.prog 73 = true := by kernel_rfl
theorem sz74 : tsz Tryz.prog 74 = some 1 := by kernel_rfl
theorem ag74 : tag Tryz.prog 74 = some none := by kernel_rfl
theorem zc74 : tzc Tryz.prog 74 = some [.nilFunc] := by kernel_rfl
theorem sr74 : tsrc Tryz.prog 74 = true := by kernel_rfl
theorem sz75 : tsz Tryz.prog 75 = some 1 := by kernel_rfl
theorem ag75 : tag Tryz.prog 75 = some none := by kernel_rfl
theorem zc75 : tzc Tryz.prog 75 = some [.nilFunc] := by kernel_rfl
theorem sr75 : tsrc Tryz.prog 75 = true := by kernel_rfl
theorem sz76 : tsz Tryz.prog 76 = some 1 := by kernel_rfl
theorem ag76 : tag Tryz.prog 76 = some none := by kernel_rfl
theorem zc76 : tzc Tryz.prog 76 = some [(.int .u64 0)] := by kernel_rfl
theorem sr76 : tsrc Tryz.prog 76 = false := by kernel_rfl
theorem sz77 : tsz Tryz.prog 77 = some 1 := by kernel_rfl
theorem ag77 : tag Tryz.prog 77 = some none := by kernel_rfl
theorem zc77 : tzc Tryz.prog 77 = some [.nilFunc] := by kernel_rfl
theorem sr77 : tsrc Tryz.prog 77 = true := by kernel_rfl
theorem sz79 : tsz Tryz.prog 79 = some 1 := by kernel_rfl
theorem ag79 : tag Tryz.prog 79 = some none := by kernel_rfl
theorem zc79 : tzc Tryz.prog 79 = some [.nilFunc] := by kernel_rfl
theorem sr79 : tsrc Tryz.prog 79 = true := by kernel_rfl
theorem sz81 : tsz Tryz.prog 81 = some 1 := by kernel_rfl
theorem ag81 : tag Tryz.prog 81 = some none := by kernel_rfl
theorem zc81 : tzc Tryz.prog 81 = some [.nilFunc] := by kernel_rfl
theorem sr81 : tsrc Tryz.prog 81 = true := by kernel_rfl
theorem sz82 : tsz Tryz.prog 82 = some 1 := by kernel_rfl
theorem ag82 : tag Tryz.prog 82 = some none := by kernel_rfl
theorem zc82 : tzc Tryz.prog 82 = some [.nilFunc] := by kernel_rfl
theorem sr82 : tsrc Tryz.prog 82 = true := by kernel_rfl
theorem sz83 : tsz Tryz.prog 83 = some 1 := by kernel_rfl
theorem ag83 : tag Tryz.prog 83 = some none := by kernel_rfl
theorem zc83 : tzc Tryz.prog 83 = some [.nilFunc] := by kernel_rfl
theorem sr83 : tsrc Tryz.prog 83 = true := by kernel_rfl
theorem sz84 : tsz Tryz.prog 84 = some 1 := by kernel_rfl
theorem ag84 : tag Tryz.prog 84 = some none := by kernel_rfl
theorem zc84 : tzc Tryz.prog 84 = some [(.int .i64 0)] := by kernel_rfl
theorem sr84 : tsrc Tryz.prog 84 = false := by kernel_rfl
theorem ni84 : tni Tryz.prog 84 = true := by kernel_rfl
theorem ta84 : tas Tryz.prog 84 = some (.int .i64 0) := by kernel_rfl
theorem sz86 : tsz Tryz.prog 86 = some 1 := by kernel_rfl
theorem ag86 : tag Tryz.prog 86 = some none := by kernel_rfl
theorem zc86 : tzc Tryz.prog 86 = some [.nilFunc] := by kernel_rfl
theorem sr86 : tsrc Tryz.prog 86 = true := by kernel_rfl
theorem sz87 : tsz Tryz.prog 87 = some 1 := by kernel_rfl
theorem ag87 : tag Tryz.prog 87 = some none := by kernel_rfl
theorem zc87 : tzc Tryz.prog 87 = some [.nilFunc] := by kernel_rfl
theorem sr87 : tsrc Tryz.prog 87 = true := by kernel_rfl
theorem sz88 : tsz Tryz.prog 88 = some 1 := by kernel_rfl
theorem ag88 : tag Tryz.prog 88 = some none := by kernel_rfl
theorem zc88 : tzc Tryz.prog 88 = some [.nilFunc] := by kernel_rfl
theorem sr88 : tsrc Tryz.prog 88 = true := by kernel_rfl
theorem sz89 : tsz Tryz.prog 89 = some 1 := by kernel_rfl
theorem ag89 : tag Tryz.prog 89 = some none := by kernel_rfl
theorem zc89 : tzc Tryz.prog 89 = some [.nilFunc] := by kernel_rfl
theorem sr89 : tsrc Tryz.prog 89 = true := by kernel_rfl
theorem sz91 : tsz Tryz.prog 91 = some 1 := by kernel_rfl
theorem ag91 : tag Tryz.prog 91 = some none := by kernel_rfl
theorem zc91 : tzc Tryz.prog 91 = some [.nilFunc] := by kernel_rfl
theorem sr91 : tsrc Tryz.prog 91 = true := by kernel_rfl
theorem sz92 : tsz Tryz.prog 92 = some 1 := by kernel_rfl
theorem ag92 : tag Tryz.prog 92 = some none := by kernel_rfl
theorem zc92 : tzc Tryz.prog 92 = some [.nilFunc] := by kernel_rfl
theorem sr92 : tsrc Tryz.prog 92 = true := by kernel_rfl
theorem sz93 : tsz Tryz.prog 93 = some 1 := by kernel_rfl
theorem ag93 : tag Tryz.prog 93 = some none := by kernel_rfl
theorem zc93 : tzc Tryz.prog 93 = some [(.int .u32 0)] := by kernel_rfl
theorem sr93 : tsrc Tryz.prog 93 = false := by kernel_rfl
theorem sz94 : tsz Tryz.prog 94 = some 1 := by kernel_rfl
theorem ag94 : tag Tryz.prog 94 = some none := by kernel_rfl
theorem zc94 : tzc Tryz.prog 94 = some [.nilFunc] := by kernel_rfl
theorem sr94 : tsrc Tryz.prog 94 = true := by kernel_rfl
theorem sz95 : tsz Tryz.prog 95 = some 1 := by kernel_rfl
theorem ag95 : tag Tryz.prog 95 = some none := by kernel_rfl
theorem zc95 : tzc Tryz.prog 95 = some [(.int .u64 0)] := by kernel_rfl
theorem sr95 : tsrc Tryz.prog 95 = false := by kernel_rfl
theorem sz96 : tsz Tryz.prog 96 = some 1 := by kernel_rfl
theorem ag96 : tag Tryz.prog 96 = some none := by kernel_rfl
theorem zc96 : tzc Tryz.prog 96 = some [.nilFunc] := by kernel_rfl
theorem sr96 : tsrc Tryz.prog 96 = true := by kernel_rfl
theorem sz97 : tsz Tryz.prog 97 = some 1 := by kernel_rfl
theorem ag97 : tag Tryz.prog 97 = some none := by kernel_rfl
theorem zc97 : tzc Tryz.prog 97 = some [.nilFunc] := by kernel_rfl
theorem sr97 : tsrc Tryz.prog 97 = true := by kernel_rfl
theorem sz98 : tsz Tryz.prog 98 = some 1 := by kernel_rfl
theorem ag98 : tag Tryz.prog 98 = some none := by kernel_rfl
theorem zc98 : tzc Tryz.prog 98 = some [.nilFunc] := by kernel_rfl
theorem sr98 : tsrc Tryz.prog 98 = true := by kernel_rfl
theorem sz99 : tsz Tryz.prog 99 = some 1 := by kernel_rfl
theorem ag99 : tag Tryz.prog 99 = some none := by kernel_rfl
theorem zc99 : tzc Tryz.prog 99 = some [.nilFunc] := by kernel_rfl
theorem sr99 : tsrc Tryz.prog 99 = true := by kernel_rfl
theorem sz100 : tsz Tryz.prog 100 = some 1 := by kernel_rfl
theorem ag100 : tag Tryz.prog 100 = some none := by kernel_rfl
theorem zc100 : tzc Tryz.prog 100 = some [.nilFunc] := by kernel_rfl
theorem sr100 : tsrc Tryz.prog 100 = true := by kernel_rfl
theorem sz101 : tsz Tryz.prog 101 = some 1 := by kernel_rfl
theorem ag101 : tag Tryz.prog 101 = some none := by kernel_rfl
theorem zc101 : tzc Tryz.prog 101 = some [.nilFunc] := by kernel_rfl
theorem sr101 : tsrc Tryz.prog 101 = true := by kernel_rfl
theorem sz102 : tsz Tryz.prog 102 = some 1 := by kernel_rfl
theorem ag102 : tag Tryz.prog 102 = some none := by kernel_rfl
theorem zc102 : tzc Tryz.prog 102 = some [.nilFunc] := by kernel_rfl
theorem sr102 : tsrc Tryz.prog 102 = true := by kernel_rfl
theorem sz103 : tsz Tryz.prog 103 = some 6 := by kernel_rfl
theorem ag103 : tag Tryz.prog 103 = some (some 6) := by kernel_rfl
theorem zc103 : tzc Tryz.prog 103 = some [(.int .i64 0), (.int .i64 0), (.int .i64 0), (.str ⟨#[]⟩), (.sl [] .full), (.int .i64 0)] := by kernel_rfl
theorem sr103 : tsrc Tryz.prog 103 = true := by kernel_rfl
theorem fd103_0 : tfd Tryz.prog 103 0 = some (0, 35) := by kernel_rfl
theorem fo103_0 : tfo Tryz.prog 103 0 = some 0 := by kernel_rfl
theorem fd103_1 : tfd Tryz.prog 103 1 = some (5, 3) := by kernel_rfl
theorem fo103_1 : tfo Tryz.prog 103 1 = some 5 := by kernel_rfl
theorem pl103 : tpl Tryz.prog 103 = some [(0, 5), (5, 1)] := by kernel_rfl
theorem bd103 (ps : List (Nat × AV)) (K : AV → Prop) : aBuild Tryz.prog 103 ps K = aBld (tpl Tryz.prog 103) (tzc Tryz.prog 103) ps K := aBuild_eq (by rw [pl103]; rfl) ps K
theorem sz104 : tsz Tryz.prog 104 = some 6 := by kernel_rfl
theorem ag104 : tag Tryz.prog 104 = some (some 6) := by kernel_rfl
theorem zc104 : tzc Tryz.prog 104 = some [(.int .i64 0), (.int .i64 0), (.int .i64 0), (.str ⟨#[]⟩), (.sl [] .full), (.int .i64 0)] := by kernel_rfl
theorem sr104 : tsrc Tryz.prog 104 = true := by kernel_rfl
theorem fd104_0 : tfd Tryz.prog 104 0 = some (0, 35) := by kernel_rfl
theorem fo104_0 : tfo Tryz.prog 104 0 = some 0 := by kernel_rfl
theorem fd104_1 : tfd Tryz.prog 104 1 = some (5, 3) := by kernel_rfl
theorem fo104_1 : tfo Tryz.prog 104 1 = some 5 := by kernel_rfl
theorem pl104 : tpl Tryz.prog 104 = some [(0, 5), (5, 1)] := by kernel_rfl
theorem bd104 (ps : List (Nat × AV)) (K : AV → Prop) : aBuild Tryz.prog 104 ps K = aBld (tpl Tryz.prog 104) (tzc Tryz.prog 104) ps K := aBuild_eq (by rw [pl104]; rfl) ps K
theorem ni104 : tni Tryz.prog 104 = true := by kernel_rfl
theorem ta104 : tas Tryz.prog 104 = some (.agg [(.int .i64 0), (.int .i64 0), (.int .i64 0), (.str ⟨#[]⟩), (.sl [] .full), (.int .i64 0)]) := by kernel_rfl
theorem sz105 : tsz Tryz.prog 105 = some 1 := by kernel_rfl
theorem ag105 : tag Tryz.prog 105 = some none := by kernel_rfl
theorem zc105 : tzc Tryz.prog 105 = some [.nilFunc] := by kernel_rfl
theorem sr105 : tsrc Tryz.prog 105 = true := by kernel_rfl
theorem sz106 : tsz Tryz.prog 106 = some 1 := by kernel_rfl
theorem ag106 : tag Tryz.prog 106 = some none := by kernel_rfl
theorem zc106 : tzc Tryz.prog 106 = some [.nilFunc] := by kernel_rfl
theorem sr106 : tsrc Tryz.prog 106 = true := by kernel_rfl
theorem sz107 : tsz Tryz.prog 107 = some 1 := by kernel_rfl
theorem ag107 : tag Tryz.prog 107 = some none := by kernel_rfl
theorem zc107 : tzc Tryz.prog 107 = some [(.int .u64 0)] := by kernel_rfl
theorem sr107 : tsrc Tryz.prog 107 = false := by kernel_rfl
theorem ni107 : tni Tryz.prog 107 = true := by kernel_rfl
theorem ta107 : tas Tryz.prog 107 = some (.int .u64 0) := by kernel_rfl
theorem sz108 : tsz Tryz.prog 108 = some 1 := by kernel_rfl
theorem ag108 : tag Tryz.prog 108 = some none := by kernel_rfl
theorem zc108 : tzc Tryz.prog 108 = some [.nilFunc] := by kernel_rfl
theorem sr108 : tsrc Tryz.prog 108 = true := by kernel_rfl
theorem sz109 : tsz Tryz.prog 109 = some 1 := by kernel_rfl
theorem ag109 : tag Tryz.prog 109 = some none := by kernel_rfl
theorem zc109 : tzc Tryz.prog 109 = some [.nilFunc] := by kernel_rfl
theorem sr109 : tsrc Tryz.prog 109 = true := by kernel_rfl
theorem sz110 : tsz Tryz.prog 110 = some 1 := by kernel_rfl
theorem ag110 : tag Tryz.prog 110 = some none := by kernel_rfl
theorem zc110 : tzc Tryz.prog 110 = some [.nilFunc] := by kernel_rfl
theorem sr110 : tsrc Tryz.prog 110 = true := by kernel_rfl
theorem sz111 : tsz Tryz.prog 111 = some 1 := by kernel_rfl
theorem ag111 : tag Tryz.prog 111 = some none := by kernel_rfl
theorem zc111 : tzc Tryz.prog 111 = some [(.ptr none)] := by kernel_rfl
theorem sr111 : tsrc Tryz.prog 111 = true := by kernel_rfl
theorem ni111 : tni Tryz.prog 111 = true := by kernel_rfl
theorem ta111 : tas Tryz.prog 111 = some (.ptr none) := by kernel_rfl
theorem sz112 : tsz Tryz.prog 112 = some 1 := by kernel_rfl
theorem ag112 : tag Tryz.prog 112 = some none := by kernel_rfl
theorem zc112 : tzc Tryz.prog 112 = some [.nilFunc] := by kernel_rfl
theorem sr112 : tsrc Tryz.prog 112 = true := by kernel_rfl
theorem sz113 : tsz Tryz.prog 113 = some 1 := by kernel_rfl
theorem ag113 : tag Tryz.prog 113 = some none := by kernel_rfl
theorem zc113 : tzc Tryz.prog 113 = some [.nilFunc] := by kernel_rfl
theorem sr113 : tsrc Tryz.prog 113 = true := by kernel_rfl
theorem sz114 : tsz Tryz.prog 114 = some 1 := by kernel_rfl
theorem ag114 : tag Tryz.prog 114 = some none := by kernel_rfl
theorem zc114 : tzc Tryz.prog 114 = some [.nilFunc] := by kernel_rfl
theorem sr114 : tsrc Tryz.prog 114 = true := by kernel_rfl
theorem sz115 : tsz Tryz.prog 115 = some 1 := by kernel_rfl
theorem ag115 : tag Tryz.prog 115 = some (some 1) := by kernel_rfl
theorem zc115 : tzc Tryz.prog 115 = some [(.int .i64 0)] := by kernel_rfl
theorem sr115 : tsrc Tryz.prog 115 = true := by kernel_rfl
theorem fd115_0 : tfd Tryz.prog 115 0 = some (0, 26) := by kernel_rfl
theorem fo115_0 : tfo Tryz.prog 115 0 = some 0 := by kernel_rfl
theorem pl115 : tpl Tryz.prog 115 = some [(0, 1)] := by kernel_rfl
theorem bd115 (ps : List (Nat × AV)) (K : AV → Prop) : aBuild Tryz.prog 115 ps K = aBld (tpl Tryz.prog 115) (tzc Tryz.prog 115) ps K := aBuild_eq (by rw [pl115]; rfl) ps K
theorem sz116 : tsz Tryz.prog 116 = some 1 := by kernel_rfl
theorem ag116 : tag Tryz.prog 116 = some (some 1) := by kernel_rfl
theorem zc116 : tzc Tryz.prog 116 = some [(.int .i64 0)] := by kernel_rfl
theorem sr116 : tsrc Tryz.prog 116 = true := by kernel_rfl
theorem fd116_0 : tfd Tryz.prog 116 0 = some (0, 26) := by kernel_rfl
theorem fo116_0 : tfo Tryz.prog 116 0 = some 0 := by kernel_rfl
theorem pl116 : tpl Tryz.prog 116 = some [(0, 1)] := by kernel_rfl
theorem bd116 (ps : List (Nat × AV)) (K : AV → Prop) : aBuild Tryz.prog 116 ps K = aBld (tpl Tryz.prog 116) (tzc Tryz.prog 116) ps K := aBuild_eq (by rw [pl116]; rfl) ps K
theorem es116 : teqS Tryz.prog 116 = some [(0, .int)] := by kernel_rfl
theorem ni116 : tni Tryz.prog 116 = true := by kernel_rfl
theorem ta116 : tas Tryz.prog 116 = some (.agg [(.int .i64 0)]) := by kernel_rfl
theorem sz118 : tsz Tryz.prog 118 = some 1 := by kernel_rfl
theorem ag118 : tag Tryz.prog 118 = some none := by kernel_rfl
theorem zc118 : tzc Tryz.prog 118 = some [.nilFunc] := by kernel_rfl
theorem sr118 : tsrc Tryz.prog 118 = true := by kernel_rfl
theorem sz119 : tsz Tryz.prog 119 = some 1 := by kernel_rfl
theorem ag119 : tag Tryz.prog 119 = some none := by kernel_rfl
theorem zc119 : tzc Tryz.prog 119 = some [.nilFunc] := by kernel_rfl
theorem sr119 : tsrc Tryz.prog 119 = true := by kernel_rfl
theorem sz120 : tsz Tryz.prog 120 = some 1 := by kernel_rfl
theorem ag120 : tag Tryz.prog 120 = some none := by kernel_rfl
theorem zc120 : tzc Tryz.prog 120 = some [.nilFunc] := by kernel_rfl
theorem sr120 : tsrc Tryz.prog 120 = true := by kernel_rfl
theorem sz121 : tsz Tryz.prog 121 = some 1 := by kernel_rfl
theorem ag121 : tag Tryz.prog 121 = some none := by kernel_rfl
theorem zc121 : tzc Tryz.prog 121 = some [.nilFunc] := by kernel_rfl
theorem sr121 : tsrc Tryz.prog 121 = true := by kernel_rfl
theorem sz122 : tsz Tryz.prog 122 = some 1 := by kernel_rfl
theorem ag122 : tag Tryz.prog 122 = some none := by kernel_rfl
theorem zc122 : tzc Tryz.prog 122 = some [.nilFunc] := by kernel_rfl
theorem sr122 : tsrc Tryz.prog 122 = true := by kernel_rfl
theorem sz123 : tsz Tryz.prog 123 = some 5 := by kernel_rfl
theorem ag123 : tag Tryz.prog 123 = some (some 5) := by kernel_rfl
theorem zc123 : tzc Tryz.prog 123 = some [.nilFunc, .nilFunc, .nilFunc, .nilFunc, .nilFunc] := by kernel_rfl
theorem sr123 : tsrc Tryz.prog 123 = true := by kernel_rfl
theorem es123 : teqS Tryz.prog 123 = none := by kernel_rfl
theorem el123 : tel Tryz.prog 123 = some (some 5, 1) := by kernel_rfl
theorem ln123 : tlen Tryz.prog 123 = some (.arr 5) := by kernel_rfl
theorem sz124 : tsz Tryz.prog 124 = some 1 := by kernel_rfl
theorem ag124 : tag Tryz.prog 124 = some none := by kernel_rfl
theorem zc124 : tzc Tryz.prog 124 = some [.nilFunc] := by kernel_rfl
theorem sr124 : tsrc Tryz.prog 124 = true := by kernel_rfl
theorem sz125 : tsz Tryz.prog 125 = some 1 := by kernel_rfl
theorem ag125 : tag Tryz.prog 125 = some none := by kernel_rfl
theorem zc125 : tzc Tryz.prog 125 = some [(.ptr none)] := by kernel_rfl
theorem sr125 : tsrc Tryz.prog 125 = true := by kernel_rfl
theorem ni125 : tni Tryz.prog 125 = true := by kernel_rfl
theorem ta125 : tas Tryz.prog 125 = some (.ptr none) := by kernel_rfl
theorem sz127 : tsz Tryz.prog 127 = some 1 := by kernel_rfl
theorem ag127 : tag Tryz.prog 127 = some none := by kernel_rfl
theorem zc127 : tzc Tryz.prog 127 = some [.nilFunc] := by kernel_rfl
theorem sr127 : tsrc Tryz.prog 127 = true := by kernel_rfl
theorem sz128 : tsz Tryz.prog 128 = some 1 := by kernel_rfl
theorem ag128 : tag Tryz.prog 128 = some none := by kernel_rfl
theorem zc128 : tzc Tryz.prog 128 = some [.nilFunc] := by kernel_rfl
theorem sr128 : tsrc Tryz.prog 128 = true := by kernel_rfl
theorem sz129 : tsz Tryz.prog 129 = some 1 := by kernel_rfl
theorem ag129 : tag Tryz.prog 129 = some none := by kernel_rfl
theorem zc129 : tzc Tryz.prog 129 = some [.nilFunc] := by kernel_rfl
theorem sr129 : tsrc Tryz.prog 129 = true := by kernel_rfl
theorem sz130 : tsz Tryz.prog 130 = some 1 := by kernel_rfl
theorem ag130 : tag Tryz.prog 130 = some none := by kernel_rfl
theorem zc130 : tzc Tryz.prog 130 = some [.nilFunc] := by kernel_rfl
theorem sr130 : tsrc Tryz.prog 130 = true := by kernel_rfl
theorem sz131 : tsz Tryz.prog 131 = some 1 := by kernel_rfl
theorem ag131 : tag Tryz.prog 131 = some none := by kernel_rfl
theorem zc131 : tzc Tryz.prog 131 = some [.nilFunc] := by kernel_rfl
theorem sr131 : tsrc Tryz.prog 131 = true := by kernel_rfl
theorem sz132 : tsz Tryz.prog 132 = some 1 := by kernel_rfl
theorem ag132 : tag Tryz.prog 132 = some none := by kernel_rfl
theorem zc132 : tzc Tryz.prog 132 = some [.nilFunc] := by kernel_rfl
theorem sr132 : tsrc Tryz.prog 132 = true := by kernel_rfl
theorem sz133 : tsz Tryz.prog 133 = some 1 := by kernel_rfl
theorem ag133 : tag Tryz.prog 133 = some none := by kernel_rfl
theorem zc133 : tzc Tryz.prog 133 = some [.nilFunc] := by kernel_rfl
theorem sr133 : tsrc Tryz.prog 133 = true := by kernel_rfl
theorem sz134 : tsz Tryz.prog 134 = some 1 := by kernel_rfl
theorem ag134 : tag Tryz.prog 134 = some none := by kernel_rfl
theorem zc134 : tzc Tryz.prog 134 = some [.nilFunc] := by kernel_rfl
theorem sr134 : tsrc Tryz.prog 134 = true := by kernel_rfl
theorem sz135 : tsz Tryz.prog 135 = some 4 := by kernel_rfl
theorem ag135 : tag Tryz.prog 135 = some (some 4) := by kernel_rfl
theorem zc135 : tzc Tryz.prog 135 = some [(.ptr none), (.ptr none), (.ptr none), (.str ⟨#[]⟩)] := by kernel_rfl
theorem sr135 : tsrc Tryz.prog 135 = true := by kernel_rfl
theorem fd135_0 : tfd Tryz.prog 135 0 = some (0, 17) := by kernel_rfl
theorem fo135_0 : tfo Tryz.prog 135 0 = some 0 := by kernel_rfl
theorem fd135_1 : tfd Tryz.prog 135 1 = some (1, 17) := by kernel_rfl
theorem fo135_1 : tfo Tryz.prog 135 1 = some 1 := by kernel_rfl
theorem fd135_2 : tfd Tryz.prog 135 2 = some (2, 17) := by kernel_rfl
theorem fo135_2 : tfo Tryz.prog 135 2 = some 2 := by kernel_rfl
theorem fd135_3 : tfd Tryz.prog 135 3 = some (3, 9) := by kernel_rfl
theorem fo135_3 : tfo Tryz.prog 135 3 = some 3 := by kernel_rfl
theorem pl135 : tpl Tryz.prog 135 = some [(0, 1), (1, 1), (2, 1), (3, 1)] := by kernel_rfl
theorem bd135 (ps : List (Nat × AV)) (K : AV → Prop) : aBuild Tryz.prog 135 ps K = aBld (tpl Tryz.prog 135) (tzc Tryz.prog 135) ps K := aBuild_eq (by rw [pl135]; rfl) ps K
theorem sz136 : tsz Tryz.prog 136 = some 4 := by kernel_rfl
theorem ag136 : tag Tryz.prog 136 = some (some 4) := by kernel_rfl
theorem zc136 : tzc Tryz.prog 136 = some [(.ptr none), (.ptr none), (.ptr none), (.str ⟨#[]⟩)] := by kernel_rfl
theorem sr136 : tsrc Tryz.prog 136 = true := by kernel_rfl
theorem fd136_0 : tfd Tryz.prog 136 0 = some (0, 17) := by kernel_rfl
theorem fo136_0 : tfo Tryz.prog 136 0 = some 0 := by kernel_rfl
theorem fd136_1 : tfd Tryz.prog 136 1 = some (1, 17) := by kernel_rfl
theorem fo136_1 : tfo Tryz.prog 136 1 = some 1 := by kernel_rfl
theorem fd136_2 : tfd Tryz.prog 136 2 = some (2, 17) := by kernel_rfl
theorem fo136_2 : tfo Tryz.prog 136 2 = some 2 := by kernel_rfl
theorem fd136_3 : tfd Tryz.prog 136 3 = some (3, 9) := by kernel_rfl
theorem fo136_3 : tfo Tryz.prog 136 3 = some 3 := by kernel_rfl
theorem pl136 : tpl Tryz.prog 136 = some [(0, 1), (1, 1), (2, 1), (3, 1)] := by kernel_rfl
theorem bd136 (ps : List (Nat × AV)) (K : AV → Prop) : aBuild Tryz.prog 136 ps K = aBld (tpl Tryz.prog 136) (tzc Tryz.prog 136) ps K := aBuild_eq (by rw [pl136]; rfl) ps K
theorem ni136 : tni Tryz.prog 136 = true := by kernel_rfl
theorem ta136 : tas Tryz.prog 136 = some (.agg [(.ptr none), (.ptr none), (.ptr none), (.str ⟨#[]⟩)]) := by kernel_rfl
theorem sz137 : tsz Tryz.prog 137 = some 0 := by kernel_rfl
theorem ag137 : tag Tryz.prog 137 = some (some 0) := by kernel_rfl
theorem zc137 : tzc Tryz.prog 137 = some [] := by kernel_rfl
theorem sr137 : tsrc Tryz.prog 137 = true := by kernel_rfl
theorem es137 : teqS Tryz.prog 137 = none := by kernel_rfl
theorem el137 : tel Tryz.prog 137 = some (some 0, 1) := by kernel_rfl
theorem ln137 : tlen Tryz.prog 137 = some (.arr 0) := by kernel_rfl
theorem sz138 : tsz Tryz.prog 138 = some 0 := by kernel_rfl
theorem ag138 : tag Tryz.prog 138 = some (some 0) := by kernel_rfl
theorem zc138 : tzc Tryz.prog 138 = some [] := by kernel_rfl
theorem sr138 : tsrc Tryz.prog 138 = true := by kernel_rfl
theorem fd138_0 : tfd Tryz.prog 138 0 = some (0, 137) := by kernel_rfl
theorem pl138 : tpl Tryz.prog 138 = some [(0, 0)] := by kernel_rfl
theorem bd138 (ps : List (Nat × AV)) (K : AV → Prop) : aBuild Tryz.prog 138 ps K = aBld (tpl Tryz.prog 138) (tzc Tryz.prog 138) ps K := aBuild_eq (by rw [pl138]; rfl) ps K
theorem sz139 : tsz Tryz.prog 139 = some 0 := by kernel_rfl
theorem ag139 : tag Tryz.prog 139 = some (some 0) := by kernel_rfl
theorem zc139 : tzc Tryz.prog 139 = some [] := by kernel_rfl
theorem sr139 : tsrc Tryz.prog 139 = true := by kernel_rfl
theorem fd139_0 : tfd Tryz.prog 139 0 = some (0, 137) := by kernel_rfl
theorem pl139 : tpl Tryz.prog 139 = some [(0, 0)] := by kernel_rfl
theorem bd139 (ps : List (Nat × AV)) (K : AV → Prop) : aBuild Tryz.prog 139 ps K = aBld (tpl Tryz.prog 139) (tzc Tryz.prog 139) ps K := aBuild_eq (by rw [pl139]; rfl) ps K
theorem ni139 : tni Tryz.prog 139 = true := by kernel_rfl
theorem ta139 : tas Tryz.prog 139 = some (.agg []) := by kernel_rfl
theorem sz140 : tsz Tryz.prog 140 = some 1 := by kernel_rfl
theorem ag140 : tag Tryz.prog 140 = some none := by kernel_rfl
theorem zc140 : tzc Tryz.prog 140 = some [.nilFunc] := by kernel_rfl
theorem sr140 : tsrc Tryz.prog 140 = true := by kernel_rfl
theorem sz141 : tsz Tryz.prog 141 = some 1 := by kernel_rfl
theorem ag141 : tag Tryz.prog 141 = some none := by kernel_rfl
theorem zc141 : tzc Tryz.prog 141 = some [(.int .u8 0)] := by kernel_rfl
theorem sr141 : tsrc Tryz.prog 141 = false := by kernel_rfl
theorem ni141 : tni Tryz.prog 141 = true := by kernel_rfl
theorem ta141 : tas Tryz.prog 141 = some (.int .u8 0) := by kernel_rfl
theorem sz142 : tsz Tryz.prog 142 = some 1 := by kernel_rfl
theorem ag142 : tag Tryz.prog 142 = some none := by kernel_rfl
theorem zc142 : tzc Tryz.prog 142 = some [(.int .u8 0)] := by kernel_rfl
theorem sr142 : tsrc Tryz.prog 142 = false := by kernel_rfl
theorem ni142 : tni Tryz.prog 142 = true := by kernel_rfl
theorem ta142 : tas Tryz.prog 142 = some (.int .u8 0) := by kernel_rfl
theorem sz143 : tsz Tryz.prog 143 = some 1 := by kernel_rfl
theorem ag143 : tag Tryz.prog 143 = some none := by kernel_rfl
theorem zc143 : tzc Tryz.prog 143 = some [.nilFunc] := by kernel_rfl
theorem sr143 : tsrc Tryz.prog 143 = true := by kernel_rfl
theorem sz144 : tsz Tryz.prog 144 = some 1 := by kernel_rfl
theorem ag144 : tag Tryz.prog 144 = some none := by kernel_rfl
theorem zc144 : tzc Tryz.prog 144 = some [(.ptr none)] := by kernel_rfl
theorem sr144 : tsrc Tryz.prog 144 = true := by kernel_rfl
theorem ni144 : tni Tryz.prog 144 = true := by kernel_rfl
theorem ta144 : tas Tryz.prog 144 = some (.ptr none) := by kernel_rfl
theorem sz145 : tsz Tryz.prog 145 = some 1 := by kernel_rfl
theorem ag145 : tag Tryz.prog 145 = some none := by kernel_rfl
theorem zc145 : tzc Tryz.prog 145 = some [(.int .i32 0)] := by kernel_rfl
theorem sr145 : tsrc Tryz.prog 145 = false := by kernel_rfl
theorem ni145 : tni Tryz.prog 145 = true := by kernel_rfl
theorem ta145 : tas Tryz.prog 145 = some (.int .i32 0) := by kernel_rfl
theorem sz146 : tsz Tryz.prog 146 = some 1 := by kernel_rfl
theorem ag146 : tag Tryz.prog 146 = some none := by kernel_rfl
theorem zc146 : tzc Tryz.prog 146 = some [(.int .i32 0)] := by kernel_rfl
theorem sr146 : tsrc Tryz.prog 146 = false := by kernel_rfl
theorem ni146 : tni Tryz.prog 146 = true := by kernel_rfl
theorem ta146 : tas Tryz.prog 146 = some (.int .i32 0) := by kernel_rfl
theorem sz147 : tsz Tryz.prog 147 = some 11 := by kernel_rfl
theorem ag147 : tag Tryz.prog 147 = some (some 11) := by kernel_rfl
theorem zc147 : tzc Tryz.prog 147 = some [(.int .u64 0), (.int .u64 0), (.int .u32 0), (.int .u8 0), (.int .u8 0), (.int .u8 0), (.int .u8 0), .nilFunc, (.ptr none), (.int .i32 0), (.int .i32 0)] := by kernel_rfl
theorem sr147 : tsrc Tryz.prog 147 = true := by kernel_rfl
theorem fd147_0 : tfd Tryz.prog 147 0 = some (0, 12) := by kernel_rfl
theorem fo147_0 : tfo Tryz.prog 147 0 = some 0 := by kernel_rfl
theorem fd147_1 : tfd Tryz.prog 147 1 = some (1, 12) := by kernel_rfl
theorem fo147_1 : tfo Tryz.prog 147 1 = some 1 := by kernel_rfl
theorem fd147_2 : tfd Tryz.prog 147 2 = some (2, 93) := by kernel_rfl
theorem fo147_2 : tfo Tryz.prog 147 2 = some 2 := by kernel_rfl
theorem fd147_3 : tfd Tryz.prog 147 3 = some (3, 141) := by kernel_rfl
theorem fo147_3 : tfo Tryz.prog 147 3 = some 3 := by kernel_rfl
theorem fd147_4 : tfd Tryz.prog 147 4 = some (4, 5) := by kernel_rfl
theorem fo147_4 : tfo Tryz.prog 147 4 = some 4 := by kernel_rfl
theorem fd147_5 : tfd Tryz.prog 147 5 = some (5, 5) := by kernel_rfl
theorem fo147_5 : tfo Tryz.prog 147 5 = some 5 := by kernel_rfl
theorem fd147_6 : tfd Tryz.prog 147 6 = some (6, 142) := by kernel_rfl
theorem fo147_6 : tfo Tryz.prog 147 6 = some 6 := by kernel_rfl
theorem fd147_7 : tfd Tryz.prog 147 7 = some (7, 143) := by kernel_rfl
theorem fo147_7 : tfo Tryz.prog 147 7 = some 7 := by kernel_rfl
theorem fd147_8 : tfd Tryz.prog 147 8 = some (8, 144) := by kernel_rfl
theorem fo147_8 : tfo Tryz.prog 147 8 = some 8 := by kernel_rfl
theorem fd147_9 : tfd Tryz.prog 147 9 = some (9, 145) := by kernel_rfl
theorem fo147_9 : tfo Tryz.prog 147 9 = some 9 := by kernel_rfl
theorem fd147_10 : tfd Tryz.prog 147 10 = some (10, 146) := by kernel_rfl
theorem fo147_10 : tfo Tryz.prog 147 10 = some 10 := by kernel_rfl
theorem pl147 : tpl Tryz.prog 147 = some [(0, 1), (1, 1), (2, 1), (3, 1), (4, 1), (5, 1), (6, 1), (7, 1), (8, 1), (9, 1), (10, 1)] := by kernel_rfl
theorem bd147 (ps : List (Nat × AV)) (K : AV → Prop) : aBuild Tryz.prog 147 ps K = aBld (tpl Tryz.prog 147) (tzc Tryz.prog 147) ps K := aBuild_eq (by rw [pl147]; rfl) ps K
theorem sz148 : tsz Tryz.prog 148 = some 11 := by kernel_rfl
theorem ag148 : tag Tryz.prog 148 = some (some 11) := by kernel_rfl
theorem zc148 : tzc Tryz.prog 148 = some [(.int .u64 0), (.int .u64 0), (.int .u32 0), (.int .u8 0), (.int .u8 0), (.int .u8 0), (.int .u8 0), .nilFunc, (.ptr none), (.int .i32 0), (.int .i32 0)] := by kernel_rfl
theorem sr148 : tsrc Tryz.prog 148 = true := by kernel_rfl
theorem fd148_0 : tfd Tryz.prog 148 0 = some (0, 12) := by kernel_rfl
theorem fo148_0 : tfo Tryz.prog 148 0 = some 0 := by kernel_rfl
theorem fd148_1 : tfd Tryz.prog 148 1 = some (1, 12) := by kernel_rfl
theorem fo148_1 : tfo Tryz.prog 148 1 = some 1 := by kernel_rfl
theorem fd148_2 : tfd Tryz.prog 148 2 = some (2, 93) := by kernel_rfl
theorem fo148_2 : tfo Tryz.prog 148 2 = some 2 := by kernel_rfl
theorem fd148_3 : tfd Tryz.prog 148 3 = some (3, 141) := by kernel_rfl
theorem fo148_3 : tfo Tryz.prog 148 3 = some 3 := by kernel_rfl
theorem fd148_4 : tfd Tryz.prog 148 4 = some (4, 5) := by kernel_rfl
theorem fo148_4 : tfo Tryz.prog 148 4 = some 4 := by kernel_rfl
theorem fd148_5 : tfd Tryz.prog 148 5 = some (5, 5) := by kernel_rfl
theorem fo148_5 : tfo Tryz.prog 148 5 = some 5 := by kernel_rfl
theorem fd148_6 : tfd Tryz.prog 148 6 = some (6, 142) := by kernel_rfl
theorem fo148_6 : tfo Tryz.prog 148 6 = some 6 := by kernel_rfl
theorem fd148_7 : tfd Tryz.prog 148 7 = some (7, 143) := by kernel_rfl
theorem fo148_7 : tfo Tryz.prog 148 7 = some 7 := by kernel_rfl
theorem fd148_8 : tfd Tryz.prog 148 8 = some (8, 144) := by kernel_rfl
theorem fo148_8 : tfo Tryz.prog 148 8 = some 8 := by kernel_rfl
theorem fd148_9 : tfd Tryz.prog 148 9 = some (9, 145) := by kernel_rfl
theorem fo148_9 : tfo Tryz.prog 148 9 = some 9 := by kernel_rfl
theorem fd148_10 : tfd Tryz.prog 148 10 = some (10, 146) := by kernel_rfl
theorem fo148_10 : tfo Tryz.prog 148 10 = some 10 := by kernel_rfl
theorem pl148 : tpl Tryz.prog 148 = some [(0, 1), (1, 1), (2, 1), (3, 1), (4, 1), (5, 1), (6, 1), (7, 1), (8, 1), (9, 1), (10, 1)] := by kernel_rfl
theorem bd148 (ps : List (Nat × AV)) (K : AV → Prop) : aBuild Tryz.prog 148 ps K = aBld (tpl Tryz.prog 148) (tzc Tryz.prog 148) ps K := aBuild_eq (by rw [pl148]; rfl) ps K
theorem ni148 : tni Tryz.prog 148 = true := by kernel_rfl
theorem ta148 : tas Tryz.prog 148 = some (.agg [(.int .u64 0), (.int .u64 0), (.int .u32 0), (.int .u8 0), (.int .u8 0), (.int .u8 0), (.int .u8 0), .nilFunc, (.ptr none), (.int .i32 0), (.int .i32 0)]) := by kernel_rfl
theorem sz149 : tsz Tryz.prog 149 = some 1 := by kernel_rfl
theorem ag149 : tag Tryz.prog 149 = some none := by kernel_rfl
theorem zc149 : tzc Tryz.prog 149 = some [(.ptr none)] := by kernel_rfl
theorem sr149 : tsrc Tryz.prog 149 = true := by kernel_rfl
theorem mu54 : tmkey Tryz.prog 54 = some true := by kernel_rfl
theorem mu69 : tmkey Tryz.prog 69 = some true := by kernel_rfl
theorem mq54 : mks Tryz.prog 54 = none := by kernel_rfl
theorem mq69 : mks Tryz.prog 69 = none := by kernel_rfl
theorem ar123 : tarr Tryz.prog 123 = some (5, 1) := by kernel_rfl
theorem ia123 (cs : List AV) (k : IntKind) (n : Int) (K : AV → Prop) : aIndex Tryz.prog 123 (.agg cs) (.int k n) K = (0 ≤ n ∧ n < 5 ∧ aLd Tryz.prog 65 (cs.drop (n.toNat * 1)) K) := aIndex_arr (by kernel_rfl) (by kernel_rfl) cs k n K
theorem ba123 (ps : List (Nat × AV)) (K : AV → Prop) : aBuild Tryz.prog 123 ps K = aBldA (tarr Tryz.prog 123) (tzc Tryz.prog 123) ps K := aBuildA_eq (by rw [ar123]; rfl) ps K
theorem ar137 : tarr Tryz.prog 137 = some (0, 1) := by kernel_rfl
theorem ia137 (cs : List AV) (k : IntKind) (n : Int) (K : AV → Prop) : aIndex Tryz.prog 137 (.agg cs) (.int k n) K = (0 ≤ n ∧ n < 0 ∧ aLd Tryz.prog 16 (cs.drop (n.toNat * 1)) K) := aIndex_arr (by kernel_rfl) (by kernel_rfl) cs k n K
theorem ba137 (ps : List (Nat × AV)) (K : AV → Prop) : aBuild Tryz.prog 137 ps K = aBldA (tarr Tryz.prog 137) (tzc Tryz.prog 137) ps K := aBuildA_eq (by rw [ar137]; rfl) ps K
theorem cv2_2 : tcv Tryz.prog 2 2 = some (some .i64) := by kernel_rfl
theorem cv2_3 : tcv Tryz.prog 2 3 = some (some .i64) := by kernel_rfl
theorem cv2_5 : tcv Tryz.prog 2 5 = some (some .u8) := by kernel_rfl
theorem cv2_6 : tcv Tryz.prog 2 6 = some (some .u8) := by kernel_rfl
theorem cv2_12 : tcv Tryz.prog 2 12 = some (some .u64) := by kernel_rfl
theorem cv2_21 : tcv Tryz.prog 2 21 = some (some .i32) := by kernel_rfl
theorem cv2_26 : tcv Tryz.prog 2 26 = some (some .i64) := by kernel_rfl
theorem cv2_76 : tcv Tryz.prog 2 76 = some (some .u64) := by kernel_rfl
theorem cv2_84 : tcv Tryz.prog 2 84 = some (some .i64) := by kernel_rfl
theorem cv2_93 : tcv Tryz.prog 2 93 = some (some .u32) := by kernel_rfl
theorem cv2_95 : tcv Tryz.prog 2 95 = some (some .u64) := by kernel_rfl
theorem cv2_107 : tcv Tryz.prog 2 107 = some (some .u64) := by kernel_rfl
theorem cv2_141 : tcv Tryz.prog 2 141 = some (some .u8) := by kernel_rfl
theorem cv2_142 : tcv Tryz.prog 2 142 = some (some .u8) := by kernel_rfl
theorem cv2_145 : tcv Tryz.prog 2 145 = some (some .i32) := by kernel_rfl
theorem cv2_146 : tcv Tryz.prog 2 146 = some (some .i32) := by kernel_rfl
theorem cv3_2 : tcv Tryz.prog 3 2 = some (some .i64) := by kernel_rfl
theorem cv3_3 : tcv Tryz.prog 3 3 = some (some .i64) := by kernel_rfl
theorem cv3_5 : tcv Tryz.prog 3 5 = some (some .u8) := by kernel_rfl
theorem cv3_6 : tcv Tryz.prog 3 6 = some (some .u8) := by kernel_rfl
theorem cv3_12 : tcv Tryz.prog 3 12 = some (some .u64) := by kernel_rfl
theorem cv3_21 : tcv Tryz.prog 3 21 = some (some .i32) := by kernel_rfl
theorem cv3_26 : tcv Tryz.prog 3 26 = some (some .i64) := by kernel_rfl
theorem cv3_76 : tcv Tryz.prog 3 76 = some (some .u64) := by kernel_rfl
theorem cv3_84 : tcv Tryz.prog 3 84 = some (some .i64) := by kernel_rfl
theorem cv3_93 : tcv Tryz.prog 3 93 = some (some .u32) := by kernel_rfl
theorem cv3_95 : tcv Tryz.prog 3 95 = some (some .u64) := by kernel_rfl
theorem cv3_107 : tcv Tryz.prog 3 107 = some (some .u64) := by kernel_rfl
theorem cv3_141 : tcv Tryz.prog 3 141 = some (some .u8) := by kernel_rfl
theorem cv3_142 : tcv Tryz.prog 3 142 = some (some .u8) := by kernel_rfl
theorem cv3_145 : tcv Tryz.prog 3 145 = some (some .i32) := by kernel_rfl
theorem cv3_146 : tcv Tryz.prog 3 146 = some (some .i32) := by kernel_rfl
theorem cv5_2 : tcv Tryz.prog 5 2 = some (some .i64) := by kernel_rfl
theorem cv5_3 : tcv Tryz.prog 5 3 = some (some .i64) := by kernel_rfl
theorem cv5_5 : tcv Tryz.prog 5 5 = some (some .u8) := by kernel_rfl
theorem cv5_6 : tcv Tryz.prog 5 6 = some (some .u8) := by kernel_rfl
theorem cv5_12 : tcv Tryz.prog 5 12 = some (some .u64) := by kernel_rfl
theorem cv5_21 : tcv Tryz.prog 5 21 = some (some .i32) := by kernel_rfl
theorem cv5_26 : tcv Tryz.prog 5 26 = some (some .i64) := by kernel_rfl
theorem cv5_76 : tcv Tryz.prog 5 76 = some (some .u64) := by kernel_rfl
theorem cv5_84 : tcv Tryz.prog 5 84 = some (some .i64) := by kernel_rfl
theorem cv5_93 : tcv Tryz.prog 5 93 = some (some .u32) := by kernel_rfl
theorem cv5_95 : tcv Tryz.prog 5 95 = some (some .u64) := by kernel_rfl
theorem cv5_107 : tcv Tryz.prog 5 107 = some (some .u64) := by kernel_rfl
theorem cv5_141 : tcv Tryz.prog 5 141 = some (some .u8) := by kernel_rfl
theorem cv5_142 : tcv Tryz.prog 5 142 = some (some .u8) := by kernel_rfl
theorem cv5_145 : tcv Tryz.prog 5 145 = some (some .i32) := by kernel_rfl
theorem cv5_146 : tcv Tryz.prog 5 146 = some (some .i32) := by kernel_rfl
theorem cv6_2 : tcv Tryz.prog 6 2 = some (some .i64) := by kernel_rfl
theorem cv6_3 : tcv Tryz.prog 6 3 = some (some .i64) := by kernel_rfl
theorem cv6_5 : tcv Tryz.prog 6 5 = some (some .u8) := by kernel_rfl
theorem cv6_6 : tcv Tryz.prog 6 6 = some (some .u8) := by kernel_rfl
theorem cv6_12 : tcv Tryz.prog 6 12 = some (some .u64) := by kernel_rfl
theorem cv6_21 : tcv Tryz.prog 6 21 = some (some .i32) := by kernel_rfl
theorem cv6_26 : tcv Tryz.prog 6 26 = some (some .i64) := by kernel_rfl
theorem cv6_76 : tcv Tryz.prog 6 76 = some (some .u64) := by kernel_rfl
theorem cv6_84 : tcv Tryz.prog 6 84 = some (some .i64) := by kernel_rfl
theorem cv6_93 : tcv Tryz.prog 6 93 = some (some .u32) := by kernel_rfl
theorem cv6_95 : tcv Tryz.prog 6 95 = some (some .u64) := by kernel_rfl
theorem cv6_107 : tcv Tryz.prog 6 107 = some (some .u64) := by kernel_rfl
theorem cv6_141 : tcv Tryz.prog 6 141 = some (some .u8) := by kernel_rfl
theorem cv6_142 : tcv Tryz.prog 6 142 = some (some .u8) := by kernel_rfl
theorem cv6_145 : tcv Tryz.prog 6 145 = some (some .i32) := by kernel_rfl
theorem cv6_146 : tcv Tryz.prog 6 146 = some (some .i32) := by kernel_rfl
theorem cv9_9 : tcv Tryz.prog 9 9 = some none := by kernel_rfl
theorem cv9_10 : tcv Tryz.prog 9 10 = some none := by kernel_rfl
theorem cv9_11 : tcv Tryz.prog 9 11 = some none := by kernel_rfl
theorem cv10_9 : tcv Tryz.prog 10 9 = some none := by kernel_rfl
theorem cv10_10 : tcv Tryz.prog 10 10 = some none := by kernel_rfl
theorem cv10_11 : tcv Tryz.prog 10 11 = some none := by kernel_rfl
theorem cv11_9 : tcv Tryz.prog 11 9 = some none := by kernel_rfl
theorem cv11_10 : tcv Tryz.prog 11 10 = some none := by kernel_rfl
theorem cv11_11 : tcv Tryz.prog 11 11 = some none := by kernel_rfl
theorem cv12_2 : tcv Tryz.prog 12 2 = some (some .i64) := by kernel_rfl
theorem cv12_3 : tcv Tryz.prog 12 3 = some (some .i64) := by kernel_rfl
theorem cv12_5 : tcv Tryz.prog 12 5 = some (some .u8) := by kernel_rfl
theorem cv12_6 : tcv Tryz.prog 12 6 = some (some .u8) := by kernel_rfl
theorem cv12_12 : tcv Tryz.prog 12 12 = some (some .u64) := by kernel_rfl
theorem cv12_21 : tcv Tryz.prog 12 21 = some (some .i32) := by kernel_rfl
theorem cv12_26 : tcv Tryz.prog 12 26 = some (some .i64) := by kernel_rfl
theorem cv12_76 : tcv Tryz.prog 12 76 = some (some .u64) := by kernel_rfl
theorem cv12_84 : tcv Tryz.prog 12 84 = some (some .i64) := by kernel_rfl
theorem cv12_93 : tcv Tryz.prog 12 93 = some (some .u32) := by kernel_rfl
theorem cv12_95 : tcv Tryz.prog 12 95 = some (some .u64) := by kernel_rfl
theorem cv12_107 : tcv Tryz.prog 12 107 = some (some .u64) := by kernel_rfl
theorem cv12_141 : tcv Tryz.prog 12 141 = some (some .u8) := by kernel_rfl
theorem cv12_142 : tcv Tryz.prog 12 142 = some (some .u8) := by kernel_rfl
theorem cv12_145 : tcv Tryz.prog 12 145 = some (some .i32) := by kernel_rfl
theorem cv12_146 : tcv Tryz.prog 12 146 = some (some .i32) := by kernel_rfl
theorem cv21_2 : tcv Tryz.prog 21 2 = some (some .i64) := by kernel_rfl
theorem cv21_3 : tcv Tryz.prog 21 3 = some (some .i64) := by kernel_rfl
theorem cv21_5 : tcv Tryz.prog 21 5 = some (some .u8) := by kernel_rfl
theorem cv21_6 : tcv Tryz.prog 21 6 = some (some .u8) := by kernel_rfl
theorem cv21_12 : tcv Tryz.prog 21 12 = some (some .u64) := by kernel_rfl
theorem cv21_21 : tcv Tryz.prog 21 21 = some (some .i32) := by kernel_rfl
theorem cv21_26 : tcv Tryz.prog 21 26 = some (some .i64) := by kernel_rfl
theorem cv21_76 : tcv Tryz.prog 21 76 = some (some .u64) := by kernel_rfl
theorem cv21_84 : tcv Tryz.prog 21 84 = some (some .i64) := by kernel_rfl
theorem cv21_93 : tcv Tryz.prog 21 93 = some (some .u32) := by kernel_rfl
theorem cv21_95 : tcv Tryz.prog 21 95 = some (some .u64) := by kernel_rfl
theorem cv21_107 : tcv Tryz.prog 21 107 = some (some .u64) := by kernel_rfl
theorem cv21_141 : tcv Tryz.prog 21 141 = some (some .u8) := by kernel_rfl
theorem cv21_142 : tcv Tryz.prog 21 142 = some (some .u8) := by kernel_rfl
theorem cv21_145 : tcv Tryz.prog 21 145 = some (some .i32) := by kernel_rfl
theorem cv21_146 : tcv Tryz.prog 21 146 = some (some .i32) := by kernel_rfl
theorem cv26_2 : tcv Tryz.prog 26 2 = some (some .i64) := by kernel_rfl
theorem cv26_3 : tcv Tryz.prog 26 3 = some (some .i64) := by kernel_rfl
theorem cv26_5 : tcv Tryz.prog 26 5 = some (some .u8) := by kernel_rfl
theorem cv26_6 : tcv Tryz.prog 26 6 = some (some .u8) := by kernel_rfl
theorem cv26_12 : tcv Tryz.prog 26 12 = some (some .u64) := by kernel_rfl
theorem cv26_21 : tcv Tryz.prog 26 21 = some (some .i32) := by kernel_rfl
theorem cv26_26 : tcv Tryz.prog 26 26 = some (some .i64) := by kernel_rfl
theorem cv26_76 : tcv Tryz.prog 26 76 = some (some .u64) := by kernel_rfl
theorem cv26_84 : tcv Tryz.prog 26 84 = some (some .i64) := by kernel_rfl
theorem cv26_93 : tcv Tryz.prog 26 93 = some (some .u32) := by kernel_rfl
theorem cv26_95 : tcv Tryz.prog 26 95 = some (some .u64) := by kernel_rfl
theorem cv26_107 : tcv Tryz.prog 26 107 = some (some .u64) := by kernel_rfl
theorem cv26_141 : tcv Tryz.prog 26 141 = some (some .u8) := by kernel_rfl
theorem cv26_142 : tcv Tryz.prog 26 142 = some (some .u8) := by kernel_rfl
theorem cv26_145 : tcv Tryz.prog 26 145 = some (some .i32) := by kernel_rfl
theorem cv26_146 : tcv Tryz.prog 26 146 = some (some .i32) := by kernel_rfl
theorem cv76_2 : tcv Tryz.prog 76 2 = some (some .i64) := by kernel_rfl
theorem cv76_3 : tcv Tryz.prog 76 3 = some (some .i64) := by kernel_rfl
theorem cv76_5 : tcv Tryz.prog 76 5 = some (some .u8) := by kernel_rfl
theorem cv76_6 : tcv Tryz.prog 76 6 = some (some .u8) := by kernel_rfl
theorem cv76_12 : tcv Tryz.prog 76 12 = some (some .u64) := by kernel_rfl
theorem cv76_21 : tcv Tryz.prog 76 21 = some (some .i32) := by kernel_rfl
theorem cv76_26 : tcv Tryz.prog 76 26 = some (some .i64) := by kernel_rfl
theorem cv76_76 : tcv Tryz.prog 76 76 = some (some .u64) := by kernel_rfl
theorem cv76_84 : tcv Tryz.prog 76 84 = some (some .i64) := by kernel_rfl
theorem cv76_93 : tcv Tryz.prog 76 93 = some (some .u32) := by kernel_rfl
theorem cv76_95 : tcv Tryz.prog 76 95 = some (some .u64) := by kernel_rfl
theorem cv76_107 : tcv Tryz.prog 76 107 = some (some .u64) := by kernel_rfl
theorem cv76_141 : tcv Tryz.prog 76 141 = some (some .u8) := by kernel_rfl
theorem cv76_142 : tcv Tryz.prog 76 142 = some (some .u8) := by kernel_rfl
theorem cv76_145 : tcv Tryz.prog 76 145 = some (some .i32) := by kernel_rfl
theorem cv76_146 : tcv Tryz.prog 76 146 = some (some .i32) := by kernel_rfl
theorem cv84_2 : tcv Tryz.prog 84 2 = some (some .i64) := by kernel_rfl
theorem cv84_3 : tcv Tryz.prog 84 3 = some (some .i64) := by kernel_rfl
theorem cv84_5 : tcv Tryz.prog 84 5 = some (some .u8) := by kernel_rfl
theorem cv84_6 : tcv Tryz.prog 84 6 = some (some .u8) := by kernel_rfl
theorem cv84_12 : tcv Tryz.prog 84 12 = some (some .u64) := by kernel_rfl
theorem cv84_21 : tcv Tryz.prog 84 21 = some (some .i32) := by kernel_rfl
theorem cv84_26 : tcv Tryz.prog 84 26 = some (some .i64) := by kernel_rfl
theorem cv84_76 : tcv Tryz.prog 84 76 = some (some .u64) := by kernel_rfl
theorem cv84_84 : tcv Tryz.prog 84 84 = some (some .i64) := by kernel_rfl
theorem cv84_93 : tcv Tryz.prog 84 93 = some (some .u32) := by kernel_rfl
theorem cv84_95 : tcv Tryz.prog 84 95 = some (some .u64) := by kernel_rfl
theorem cv84_107 : tcv Tryz.prog 84 107 = some (some .u64) := by kernel_rfl
theorem cv84_141 : tcv Tryz.prog 84 141 = some (some .u8) := by kernel_rfl
theorem cv84_142 : tcv Tryz.prog 84 142 = some (some .u8) := by kernel_rfl
theorem cv84_145 : tcv Tryz.prog 84 145 = some (some .i32) := by kernel_rfl
theorem cv84_146 : tcv Tryz.prog 84 146 = some (some .i32) := by kernel_rfl
theorem cv93_2 : tcv Tryz.prog 93 2 = some (some .i64) := by kernel_rfl
theorem cv93_3 : tcv Tryz.prog 93 3 = some (some .i64) := by kernel_rfl
theorem cv93_5 : tcv Tryz.prog 93 5 = some (some .u8) := by kernel_rfl
theorem cv93_6 : tcv Tryz.prog 93 6 = some (some .u8) := by kernel_rfl
theorem cv93_12 : tcv Tryz.prog 93 12 = some (some .u64) := by kernel_rfl
theorem cv93_21 : tcv Tryz.prog 93 21 = some (some .i32) := by kernel_rfl
theorem cv93_26 : tcv Tryz.prog 93 26 = some (some .i64) := by kernel_rfl
theorem cv93_76 : tcv Tryz.prog 93 76 = some (some .u64) := by kernel_rfl
theorem cv93_84 : tcv Tryz.prog 93 84 = some (some .i64) := by kernel_rfl
theorem cv93_93 : tcv Tryz.prog 93 93 = some (some .u32) := by kernel_rfl
theorem cv93_95 : tcv Tryz.prog 93 95 = some (some .u64) := by kernel_rfl
theorem cv93_107 : tcv Tryz.prog 93 107 = some (some .u64) := by kernel_rfl
theorem cv93_141 : tcv Tryz.prog 93 141 = some (some .u8) := by kernel_rfl
theorem cv93_142 : tcv Tryz.prog 93 142 = some (some .u8) := by kernel_rfl
theorem cv93_145 : tcv Tryz.prog 93 145 = some (some .i32) := by kernel_rfl
theorem cv93_146 : tcv Tryz.prog 93 146 = some (some .i32) := by kernel_rfl
theorem cv95_2 : tcv Tryz.prog 95 2 = some (some .i64) := by kernel_rfl
theorem cv95_3 : tcv Tryz.prog 95 3 = some (some .i64) := by kernel_rfl
theorem cv95_5 : tcv Tryz.prog 95 5 = some (some .u8) := by kernel_rfl
theorem cv95_6 : tcv Tryz.prog 95 6 = some (some .u8) := by kernel_rfl
theorem cv95_12 : tcv Tryz.prog 95 12 = some (some .u64) := by kernel_rfl
theorem cv95_21 : tcv Tryz.prog 95 21 = some (some .i32) := by kernel_rfl
theorem cv95_26 : tcv Tryz.prog 95 26 = some (some .i64) := by kernel_rfl
theorem cv95_76 : tcv Tryz.prog 95 76 = some (some .u64) := by kernel_rfl
theorem cv95_84 : tcv Tryz.prog 95 84 = some (some .i64) := by kernel_rfl
theorem cv95_93 : tcv Tryz.prog 95 93 = some (some .u32) := by kernel_rfl
theorem cv95_95 : tcv Tryz.prog 95 95 = some (some .u64) := by kernel_rfl
theorem cv95_107 : tcv Tryz.prog 95 107 = some (some .u64) := by kernel_rfl
theorem cv95_141 : tcv Tryz.prog 95 141 = some (some .u8) := by kernel_rfl
theorem cv95_142 : tcv Tryz.prog 95 142 = some (some .u8) := by kernel_rfl
theorem cv95_145 : tcv Tryz.prog 95 145 = some (some .i32) := by kernel_rfl
theorem cv95_146 : tcv Tryz.prog 95 146 = some (some .i32) := by kernel_rfl
theorem cv107_2 : tcv Tryz.prog 107 2 = some (some .i64) := by kernel_rfl
theorem cv107_3 : tcv Tryz.prog 107 3 = some (some .i64) := by kernel_rfl
theorem cv107_5 : tcv Tryz.prog 107 5 = some (some .u8) := by kernel_rfl
theorem cv107_6 : tcv Tryz.prog 107 6 = some (some .u8) := by kernel_rfl
theorem cv107_12 : tcv Tryz.prog 107 12 = some (some .u64) := by kernel_rfl
theorem cv107_21 : tcv Tryz.prog 107 21 = some (some .i32) := by kernel_rfl
theorem cv107_26 : tcv Tryz.prog 107 26 = some (some .i64) := by kernel_rfl
theorem cv107_76 : tcv Tryz.prog 107 76 = some (some .u64) := by kernel_rfl
theorem cv107_84 : tcv Tryz.prog 107 84 = some (some .i64) := by kernel_rfl
theorem cv107_93 : tcv Tryz.prog 107 93 = some (some .u32) := by kernel_rfl
theorem cv107_95 : tcv Tryz.prog 107 95 = some (some .u64) := by kernel_rfl
theorem cv107_107 : tcv Tryz.prog 107 107 = some (some .u64) := by kernel_rfl
theorem cv107_141 : tcv Tryz.prog 107 141 = some (some .u8) := by kernel_rfl
theorem cv107_142 : tcv Tryz.prog 107 142 = some (some .u8) := by kernel_rfl
theorem cv107_145 : tcv Tryz.prog 107 145 = some (some .i32) := by kernel_rfl
theorem cv107_146 : tcv Tryz.prog 107 146 = some (some .i32) := by kernel_rfl
theorem cv141_2 : tcv Tryz.prog 141 2 = some (some .i64) := by kernel_rfl
theorem cv141_3 : tcv Tryz.prog 141 3 = some (some .i64) := by kernel_rfl
theorem cv141_5 : tcv Tryz.prog 141 5 = some (some .u8) := by kernel_rfl
theorem cv141_6 : tcv Tryz.prog 141 6 = some (some .u8) := by kernel_rfl
theorem cv141_12 : tcv Tryz.prog 141 12 = some (some .u64) := by kernel_rfl
theorem cv141_21 : tcv Tryz.prog 141 21 = some (some .i32) := by kernel_rfl
theorem cv141_26 : tcv Tryz.prog 141 26 = some (some .i64) := by kernel_rfl
theorem cv141_76 : tcv Tryz.prog 141 76 = some (some .u64) := by kernel_rfl
theorem cv141_84 : tcv Tryz.prog 141 84 = some (some .i64) := by kernel_rfl
theorem cv141_93 : tcv Tryz.prog 141 93 = some (some .u32) := by kernel_rfl
theorem cv141_95 : tcv Tryz.prog 141 95 = some (some .u64) := by kernel_rfl
theorem cv141_107 : tcv Tryz.prog 141 107 = some (some .u64) := by kernel_rfl
theorem cv141_141 : tcv Tryz.prog 141 141 = some (some .u8) := by kernel_rfl
theorem cv141_142 : tcv Tryz.prog 141 142 = some (some .u8) := by kernel_rfl
theorem cv141_145 : tcv Tryz.prog 141 145 = some (some .i32) := by kernel_rfl
theorem cv141_146 : tcv Tryz.prog 141 146 = some (some .i32) := by kernel_rfl
theorem cv142_2 : tcv Tryz.prog 142 2 = some (some .i64) := by kernel_rfl
theorem cv142_3 : tcv Tryz.prog 142 3 = some (some .i64) := by kernel_rfl
theorem cv142_5 : tcv Tryz.prog 142 5 = some (some .u8) := by kernel_rfl
theorem cv142_6 : tcv Tryz.prog 142 6 = some (some .u8) := by kernel_rfl
theorem cv142_12 : tcv Tryz.prog 142 12 = some (some .u64) := by kernel_rfl
theorem cv142_21 : tcv Tryz.prog 142 21 = some (some .i32) := by kernel_rfl
theorem cv142_26 : tcv Tryz.prog 142 26 = some (some .i64) := by kernel_rfl
theorem cv142_76 : tcv Tryz.prog 142 76 = some (some .u64) := by kernel_rfl
theorem cv142_84 : tcv Tryz.prog 142 84 = some (some .i64) := by kernel_rfl
theorem cv142_93 : tcv Tryz.prog 142 93 = some (some .u32) := by kernel_rfl
theorem cv142_95 : tcv Tryz.prog 142 95 = some (some .u64) := by kernel_rfl
theorem cv142_107 : tcv Tryz.prog 142 107 = some (some .u64) := by kernel_rfl
theorem cv142_141 : tcv Tryz.prog 142 141 = some (some .u8) := by kernel_rfl
theorem cv142_142 : tcv Tryz.prog 142 142 = some (some .u8) := by kernel_rfl
theorem cv142_145 : tcv Tryz.prog 142 145 = some (some .i32) := by kernel_rfl
theorem cv142_146 : tcv Tryz.prog 142 146 = some (some .i32) := by kernel_rfl
theorem cv145_2 : tcv Tryz.prog 145 2 = some (some .i64) := by kernel_rfl
theorem cv145_3 : tcv Tryz.prog 145 3 = some (some .i64) := by kernel_rfl
theorem cv145_5 : tcv Tryz.prog 145 5 = some (some .u8) := by kernel_rfl
theorem cv145_6 : tcv Tryz.prog 145 6 = some (some .u8) := by kernel_rfl
theorem cv145_12 : tcv Tryz.prog 145 12 = some (some .u64) := by kernel_rfl
theorem cv145_21 : tcv Tryz.prog 145 21 = some (some .i32) := by kernel_rfl
theorem cv145_26 : tcv Tryz.prog 145 26 = some (some .i64) := by kernel_rfl
theorem cv145_76 : tcv Tryz.prog 145 76 = some (some .u64) := by kernel_rfl
theorem cv145_84 : tcv Tryz.prog 145 84 = some (some .i64) := by kernel_rfl
theorem cv145_93 : tcv Tryz.prog 145 93 = some (some .u32) := by kernel_rfl
theorem cv145_95 : tcv Tryz.prog 145 95 = some (some .u64) := by kernel_rfl
theorem cv145_107 : tcv Tryz.prog 145 107 = some (some .u64) := by kernel_rfl
theorem cv145_141 : tcv Tryz.prog 145 141 = some (some .u8) := by kernel_rfl
theorem cv145_142 : tcv Tryz.prog 145 142 = some (some .u8) := by kernel_rfl
theorem cv145_145 : tcv Tryz.prog 145 145 = some (some .i32) := by kernel_rfl
theorem cv145_146 : tcv Tryz.prog 145 146 = some (some .i32) := by kernel_rfl
theorem cv146_2 : tcv Tryz.prog 146 2 = some (some .i64) := by kernel_rfl
theorem cv146_3 : tcv Tryz.prog 146 3 = some (some .i64) := by kernel_rfl
theorem cv146_5 : tcv Tryz.prog 146 5 = some (some .u8) := by kernel_rfl
theorem cv146_6 : tcv Tryz.prog 146 6 = some (some .u8) := by kernel_rfl
theorem cv146_12 : tcv Tryz.prog 146 12 = some (some .u64) := by kernel_rfl
theorem cv146_21 : tcv Tryz.prog 146 21 = some (some .i32) := by kernel_rfl
theorem cv146_26 : tcv Tryz.prog 146 26 = some (some .i64) := by kernel_rfl
theorem cv146_76 : tcv Tryz.prog 146 76 = some (some .u64) := by kernel_rfl
theorem cv146_84 : tcv Tryz.prog 146 84 = some (some .i64) := by kernel_rfl
theorem cv146_93 : tcv Tryz.prog 146 93 = some (some .u32) := by kernel_rfl
theorem cv146_95 : tcv Tryz.prog 146 95 = some (some .u64) := by kernel_rfl
theorem cv146_107 : tcv Tryz.prog 146 107 = some (some .u64) := by kernel_rfl
theorem cv146_141 : tcv Tryz.prog 146 141 = some (some .u8) := by kernel_rfl
theorem cv146_142 : tcv Tryz.prog 146 142 = some (some .u8) := by kernel_rfl
theorem cv146_145 : tcv Tryz.prog 146 145 = some (some .i32) := by kernel_rfl
theorem cv146_146 : tcv Tryz.prog 146 146 = some (some .i32) := by kernel_rfl
attribute [go_sem] sz1 ag1 zc1 sr1 sz2 ag2 zc2 sr2 sz3 ag3 zc3 sr3 sz4 ag4 zc4 sr4 bo4 sz5 ag5 zc5 sr5 sz6 ag6 zc6 sr6 ni6 ta6 sz7 ag7 zc7 sr7 fd7_0 fo7_0 fd7_1 fo7_1 fd7_2 fo7_2 fd7_3 fo7_3 pl7 bd7 sz8 ag8 zc8 sr8 fd8_0 fo8_0 fd8_1 fo8_1 fd8_2 fo8_2 fd8_3 fo8_3 pl8 bd8 ni8 ta8 sz9 ag9 zc9 sr9 cu9 ln9 sz10 ag10 zc10 sr10 ni10 ta10 cu10 ln10 sz11 ag11 zc11 sr11 ni11 ta11 cu11 ln11 sz12 ag12 zc12 sr12 sz13 ag13 zc13 sr13 fd13_0 fo13_0 fd13_1 fo13_1 pl13 bd13 sz14 ag14 zc14 sr14 fd14_0 fo14_0 fd14_1 fo14_1 pl14 bd14 ni14 ta14 sz15 ag15 zc15 sr15 ni15 ta15 sz16 ag16 zc16 sr16 ni16 ta16 sz17 ag17 zc17 sr17 ni17 ta17 sz18 ag18 zc18 sr18 fd18_0 fo18_0 pl18 bd18 sz19 ag19 zc19 sr19 fd19_0 fo19_0 pl19 bd19 ni19 ta19 sz20 ag20 zc20 sr20 if20 sz21 ag21 zc21 sr21 sz22 ag22 zc22 sr22 el22 cu22 ap22 bs22 ms22 mm22 mc22 mb22 ma22 ae22_22 ln22 sz23 ag23 zc23 sr23 sz24 ag24 zc24 sr24 sz25 ag25 zc25 sr25 el25 cu25 ap25 bs25 ms25 mm25 mc25 mb25 ma25 ae25_25 ln25 sz26 ag26 zc26 sr26 ni26 ta26 sz28 ag28 zc28 sr28 sz29 ag29 zc29 sr29 sz30 ag30 zc30 sr30 sz31 ag31 zc31 sr31 el31 cu31 ap31 bs31 ms31 mm31 mc31 mb31 ma31 ae31_31 ln31 sz32 ag32 zc32 sr32 el32 cu32 ap32 bs32 ms32 mm32 mc32 mb32 ma32 ae32_32 ln32 sz33 ag33 zc33 sr33 el33 cu33 ap33 bs33 ms33 mm33 mc33 mb33 ma33 ae33_33 ln33 sz34 ag34 zc34 sr34 fd34_0 fo34_0 fd34_1 fo34_1 fd34_2 fo34_2 fd34_3 fo34_3 fd34_4 fo34_4 pl34 bd34 sz35 ag35 zc35 sr35 fd35_0 fo35_0 fd35_1 fo35_1 fd35_2 fo35_2 fd35_3 fo35_3 fd35_4 fo35_4 pl35 bd35 ni35 ta35 sz36 ag36 zc36 sr36 fd36_0 fo36_0 fd36_1 fo36_1 fd36_2 fo36_2 fd36_3 fo36_3 fd36_4 fo36_4 fd36_5 fo36_5 pl36 bd36 sz37 ag37 zc37 sr37 fd37_0 fo37_0 fd37_1 fo37_1 fd37_2 fo37_2 fd37_3 fo37_3 fd37_4 fo37_4 fd37_5 fo37_5 pl37 bd37 ni37 ta37 sz38 ag38 zc38 sr38 fd38_0 fo38_0 fd38_1 fo38_1 fd38_2 fo38_2 fd38_3 fo38_3 pl38 bd38 sz39 ag39 zc39 sr39 fd39_0 fo39_0 fd39_1 fo39_1 fd39_2 fo39_2 fd39_3 fo39_3 pl39 bd39 ni39 ta39 sz40 ag40 zc40 sr40 sz42 ag42 zc42 sr42 sz43 ag43 zc43 sr43 el43 cu43 ap43 bs43 ms43 mm43 mc43 mb43 ma43 ae43_43 ln43 sz45 ag45 zc45 sr45 sz46 ag46 zc46 sr46 sz47 ag47 zc47 sr47 sz48 ag48 zc48 sr48 sz49 ag49 zc49 sr49 sz50 ag50 zc50 sr50 sz51 ag51 zc51 sr51 sz52 ag52 zc52 sr52 sz53 ag53 zc53 sr53 sz54 ag54 zc54 sr54 ln54 mk54 sz55 ag55 zc55 sr55 sz56 ag56 zc56 sr56 sz57 ag57 zc57 sr57 sz58 ag58 zc58 sr58 sz59 ag59 zc59 sr59 fd59_0 fo59_0 fd59_1 fo59_1 fd59_2 fo59_2 fd59_3 fo59_3 pl59 bd59 sz60 ag60 zc60 sr60 fd60_0 fo60_0 fd60_1 fo60_1 fd60_2 fo60_2 fd60_3 fo60_3 pl60 bd60 ni60 ta60 sz61 ag61 zc61 sr61 sz62 ag62 zc62 sr62 sz63 ag63 zc63 sr63 sz64 ag64 zc64 sr64 sz65 ag65 zc65 sr65 sz66 ag66 zc66 sr66 sz67 ag67 zc67 sr67 sz68 ag68 zc68 sr68 sz69 ag69 zc69 sr69 ln69 mk69 sz70 ag70 zc70 sr70 sz71 ag71 zc71 sr71 sz72 ag72 zc72 sr72 sz73 ag73 zc73 sr73 sz74 ag74 zc74 sr74 sz75 ag75 zc75 sr75 sz76 ag76 zc76 sr76 sz77 ag77 zc77 sr77 sz79 ag79 zc79 sr79 sz81 ag81 zc81 sr81 sz82 ag82 zc82 sr82 sz83 ag83 zc83 sr83 sz84 ag84 zc84 sr84 ni84 ta84 sz86 ag86 zc86 sr86 sz87 ag87 zc87 sr87 sz88 ag88 zc88 sr88 sz89 ag89 zc89 sr89 sz91 ag91 zc91 sr91 sz92 ag92 zc92 sr92 sz93 ag93 zc93 sr93 sz94 ag94 zc94 sr94 sz95 ag95 zc95 sr95 sz96 ag96 zc96 sr96 sz97 ag97 zc97 sr97 sz98 ag98 zc98 sr98 sz99 ag99 zc99 sr99 sz100 ag100 zc100 sr100 sz101 ag101 zc101 sr101 sz102 ag102 zc102 sr102 sz103 ag103 zc103 sr103 fd103_0 fo103_0 fd103_1 fo103_1 pl103 bd103 sz104 ag104 zc104 sr104 fd104_0 fo104_0 fd104_1 fo104_1 pl104 bd104 ni104 ta104 sz105 ag105 zc105 sr105 sz106 ag106 zc106 sr106 sz107 ag107 zc107 sr107 ni107 ta107 sz108 ag108 zc108 sr108 sz109 ag109 zc109 sr109 sz110 ag110 zc110 sr110 sz111 ag111 zc111 sr111 ni111 ta111 sz112 ag112 zc112 sr112 sz113 ag113 zc113 sr113 sz114 ag114 zc114 sr114 sz115 ag115 zc115 sr115 fd115_0 fo115_0 pl115 bd115 sz116 ag116 zc116 sr116 fd116_0 fo116_0 pl116 bd116 es116 ni116 ta116 sz118 ag118 zc118 sr118 sz119 ag119 zc119 sr119 sz120 ag120 zc120 sr120 sz121 ag121 zc121 sr121 sz122 ag122 zc122 sr122 sz123 ag123 zc123 sr123 es123 el123 ln123 sz124 ag124 zc124 sr124 sz125 ag125 zc125 sr125 ni125 ta125 sz127 ag127 zc127 sr127 sz128 ag128 zc128 sr128 sz129 ag129 zc129 sr129 sz130 ag130 zc130 sr130 sz131 ag131 zc131 sr131 sz132 ag132 zc132 sr132 sz133 ag133 zc133 sr133 sz134 ag134 zc134 sr134 sz135 ag135 zc135 sr135 fd135_0 fo135_0 fd135_1 fo135_1 fd135_2 fo135_2 fd135_3 fo135_3 pl135 bd135 sz136 ag136 zc136 sr136 fd136_0 fo136_0 fd136_1 fo136_1 fd136_2 fo136_2 fd136_3 fo136_3 pl136 bd136 ni136 ta136 sz137 ag137 zc137 sr137 es137 el137 ln137 sz138 ag138 zc138 sr138 fd138_0 pl138 bd138 sz139 ag139 zc139 sr139 fd139_0 pl139 bd139 ni139 ta139 sz140 ag140 zc140 sr140 sz141 ag141 zc141 sr141 ni141 ta141 sz142 ag142 zc142 sr142 ni142 ta142 sz143 ag143 zc143 sr143 sz144 ag144 zc144 sr144 ni144 ta144 sz145 ag145 zc145 sr145 ni145 ta145 sz146 ag146 zc146 sr146 ni146 ta146 sz147 ag147 zc147 sr147 fd147_0 fo147_0 fd147_1 fo147_1 fd147_2 fo147_2 fd147_3 fo147_3 fd147_4 fo147_4 fd147_5 fo147_5 fd147_6 fo147_6 fd147_7 fo147_7 fd147_8 fo147_8 fd147_9 fo147_9 fd147_10 fo147_10 pl147 bd147 sz148 ag148 zc148 sr148 fd148_0 fo148_0 fd148_1 fo148_1 fd148_2 fo148_2 fd148_3 fo148_3 fd148_4 fo148_4 fd148_5 fo148_5 fd148_6 fo148_6 fd148_7 fo148_7 fd148_8 fo148_8 fd148_9 fo148_9 fd148_10 fo148_10 pl148 bd148 ni148 ta148 sz149 ag149 zc149 sr149 mu54 mu69 mq54 mq69 ar123 ia123 ba123 ar137 ia137 ba137 cv2_2 cv2_3 cv2_5 cv2_6 cv2_12 cv2_21 cv2_26 cv2_76 cv2_84 cv2_93 cv2_95 cv2_107 cv2_141 cv2_142 cv2_145 cv2_146 cv3_2 cv3_3 cv3_5 cv3_6 cv3_12 cv3_21 cv3_26 cv3_76 cv3_84 cv3_93 cv3_95 cv3_107 cv3_141 cv3_142 cv3_145 cv3_146 cv5_2 cv5_3 cv5_5 cv5_6 cv5_12 cv5_21 cv5_26 cv5_76 cv5_84 cv5_93 cv5_95 cv5_107 cv5_141 cv5_142 cv5_145 cv5_146 cv6_2 cv6_3 cv6_5 cv6_6 cv6_12 cv6_21 cv6_26 cv6_76 cv6_84 cv6_93 cv6_95 cv6_107 cv6_141 cv6_142 cv6_145 cv6_146 cv9_9 cv9_10 cv9_11 cv10_9 cv10_10 cv10_11 cv11_9 cv11_10 cv11_11 cv12_2 cv12_3 cv12_5 cv12_6 cv12_12 cv12_21 cv12_26 cv12_76 cv12_84 cv12_93 cv12_95 cv12_107 cv12_141 cv12_142 cv12_145 cv12_146 cv21_2 cv21_3 cv21_5 cv21_6 cv21_12 cv21_21 cv21_26 cv21_76 cv21_84 cv21_93 cv21_95 cv21_107 cv21_141 cv21_142 cv21_145 cv21_146 cv26_2 cv26_3 cv26_5 cv26_6 cv26_12 cv26_21 cv26_26 cv26_76 cv26_84 cv26_93 cv26_95 cv26_107 cv26_141 cv26_142 cv26_145 cv26_146 cv76_2 cv76_3 cv76_5 cv76_6 cv76_12 cv76_21 cv76_26 cv76_76 cv76_84 cv76_93 cv76_95 cv76_107 cv76_141 cv76_142 cv76_145 cv76_146 cv84_2 cv84_3 cv84_5 cv84_6 cv84_12 cv84_21 cv84_26 cv84_76 cv84_84 cv84_93 cv84_95 cv84_107 cv84_141 cv84_142 cv84_145 cv84_146 cv93_2 cv93_3 cv93_5 cv93_6 cv93_12 cv93_21 cv93_26 cv93_76 cv93_84 cv93_93 cv93_95 cv93_107 cv93_141 cv93_142 cv93_145 cv93_146 cv95_2 cv95_3 cv95_5 cv95_6 cv95_12 cv95_21 cv95_26 cv95_76 cv95_84 cv95_93 cv95_95 cv95_107 cv95_141 cv95_142 cv95_145 cv95_146 cv107_2 cv107_3 cv107_5 cv107_6 cv107_12 cv107_21 cv107_26 cv107_76 cv107_84 cv107_93 cv107_95 cv107_107 cv107_141 cv107_142 cv107_145 cv107_146 cv141_2 cv141_3 cv141_5 cv141_6 cv141_12 cv141_21 cv141_26 cv141_76 cv141_84 cv141_93 cv141_95 cv141_107 cv141_141 cv141_142 cv141_145 cv141_146 cv142_2 cv142_3 cv142_5 cv142_6 cv142_12 cv142_21 cv142_26 cv142_76 cv142_84 cv142_93 cv142_95 cv142_107 cv142_141 cv142_142 cv142_145 cv142_146 cv145_2 cv145_3 cv145_5 cv145_6 cv145_12 cv145_21 cv145_26 cv145_76 cv145_84 cv145_93 cv145_95 cv145_107 cv145_141 cv145_142 cv145_145 cv145_146 cv146_2 cv146_3 cv146_5 cv146_6 cv146_12 cv146_21 cv146_26 cv146_76 cv146_84 cv146_93 cv146_95 cv146_107 cv146_141 cv146_142 cv146_145 cv146_146
end Go.Proofs.YtjdhgaflenhljaaGreatDoor.Ty
