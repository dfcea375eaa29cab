/- Texts joined: Ty. No conditions. -/
import Derived.Test.YtplllkjobpjaoaaGreatDoorProg
import Derived.Test.YtplllkjobpjaoaaGreatDoorMrE
import Derived.KernelRfl
/- The closed facts on the types of this translation: cells, zero values, places of fields, elements. By program; no conditions. -/
namespace Go.Proofs.YtplllkjobpjaoaaGreatDoor.Ty
open Go Go.Proofs Go.Abs
theorem mixed : Tryz.prog.follows .mixedOrders = true := by kernel_rfl
theorem sz1 : tsz Tryz.prog 1 = some 1 := by kernel_rfl
theorem ag1 : tag Tryz.prog 1 = some none := by kernel_rfl
theorem zc1 : tzc Tryz.prog 1 = some [.nilFunc] := by kernel_rfl
theorem sr1 : tsrc Tryz.prog 1 = true := by kernel_rfl
theorem sz2 : tsz Tryz.prog 2 = some 1 := by kernel_rfl
theorem ag2 : tag Tryz.prog 2 = some none := by kernel_rfl
theorem zc2 : tzc Tryz.prog 2 = some [(.int .i64 0)] := by kernel_rfl
theorem sr2 : tsrc Tryz.prog 2 = false := by kernel_rfl
theorem sz3 : tsz Tryz.prog 3 = some 1 := by kernel_rfl
theorem ag3 : tag Tryz.prog 3 = some none := by kernel_rfl
theorem zc3 : tzc Tryz.prog 3 = some [(.int .i64 0)] := by kernel_rfl
theorem sr3 : tsrc Tryz.prog 3 = false := by kernel_rfl
theorem sz4 : tsz Tryz.prog 4 = some 1 := by kernel_rfl
theorem ag4 : tag Tryz.prog 4 = some none := by kernel_rfl
theorem zc4 : tzc Tryz.prog 4 = some [(.bool false)] := by kernel_rfl
theorem sr4 : tsrc Tryz.prog 4 = true := by kernel_rfl
theorem bo4 : tbool Tryz.prog 4 = true := by kernel_rfl
theorem sz5 : tsz Tryz.prog 5 = some 1 := by kernel_rfl
theorem ag5 : tag Tryz.prog 5 = some none := by kernel_rfl
theorem zc5 : tzc Tryz.prog 5 = some [(.int .u8 0)] := by kernel_rfl
theorem sr5 : tsrc Tryz.prog 5 = false := by kernel_rfl
theorem sz6 : tsz Tryz.prog 6 = some 1 := by kernel_rfl
theorem ag6 : tag Tryz.prog 6 = some none := by kernel_rfl
theorem zc6 : tzc Tryz.prog 6 = some [(.int .u8 0)] := by kernel_rfl
theorem sr6 : tsrc Tryz.prog 6 = false := by kernel_rfl
theorem ni6 : tni Tryz.prog 6 = true := by kernel_rfl
theorem ta6 : tas Tryz.prog 6 = some (.int .u8 0) := by kernel_rfl
theorem sz7 : tsz Tryz.prog 7 = some 4 := by kernel_rfl
theorem ag7 : tag Tryz.prog 7 = some (some 4) := by kernel_rfl
theorem zc7 : tzc Tryz.prog 7 = some [(.int .i64 0), (.int .i64 0), (.bool false), (.int .u8 0)] := by kernel_rfl
theorem sr7 : tsrc Tryz.prog 7 = true := by kernel_rfl
theorem fd7_0 : tfd Tryz.prog 7 0 = some (0, 2) := by kernel_rfl
theorem fo7_0 : tfo Tryz.prog 7 0 = some 0 := by kernel_rfl
theorem fd7_1 : tfd Tryz.prog 7 1 = some (1, 3) := by kernel_rfl
theorem fo7_1 : tfo Tryz.prog 7 1 = some 1 := by kernel_rfl
theorem fd7_2 : tfd Tryz.prog 7 2 = some (2, 4) := by kernel_rfl
theorem fo7_2 : tfo Tryz.prog 7 2 = some 2 := by kernel_rfl
theorem fd7_3 : tfd Tryz.prog 7 3 = some (3, 6) := by kernel_rfl
theorem fo7_3 : tfo Tryz.prog 7 3 = some 3 := by kernel_rfl
theorem pl7 : tpl Tryz.prog 7 = some [(0, 1), (1, 1), (2, 1), (3, 1)] := by kernel_rfl
theorem bd7 (ps : List (Nat × AV)) (K : AV → Prop) : aBuild Tryz.prog 7 ps K = aBld (tpl Tryz.prog 7) (tzc Tryz.prog 7) ps K := aBuild_eq (by rw [pl7]; rfl) ps K
theorem sz8 : tsz Tryz.prog 8 = some 4 := by kernel_rfl
theorem ag8 : tag Tryz.prog 8 = some (some 4) := by kernel_rfl
theorem zc8 : tzc Tryz.prog 8 = some [(.int .i64 0), (.int .i64 0), (.bool false), (.int .u8 0)] := by kernel_rfl
theorem sr8 : tsrc Tryz.prog 8 = true := by kernel_rfl
theorem fd8_0 : tfd Tryz.prog 8 0 = some (0, 2) := by kernel_rfl
theorem fo8_0 : tfo Tryz.prog 8 0 = some 0 := by kernel_rfl
theorem fd8_1 : tfd Tryz.prog 8 1 = some (1, 3) := by kernel_rfl
theorem fo8_1 : tfo Tryz.prog 8 1 = some 1 := by kernel_rfl
theorem fd8_2 : tfd Tryz.prog 8 2 = some (2, 4) := by kernel_rfl
theorem fo8_2 : tfo Tryz.prog 8 2 = some 2 := by kernel_rfl
theorem fd8_3 : tfd Tryz.prog 8 3 = some (3, 6) := by kernel_rfl
theorem fo8_3 : tfo Tryz.prog 8 3 = some 3 := by kernel_rfl
theorem pl8 : tpl Tryz.prog 8 = some [(0, 1), (1, 1), (2, 1), (3, 1)] := by kernel_rfl
theorem bd8 (ps : List (Nat × AV)) (K : AV → Prop) : aBuild Tryz.prog 8 ps K = aBld (tpl Tryz.prog 8) (tzc Tryz.prog 8) ps K := aBuild_eq (by rw [pl8]; rfl) ps K
theorem ni8 : tni Tryz.prog 8 = true := by kernel_rfl
theorem ta8 : tas Tryz.prog 8 = some (.agg [(.int .i64 0), (.int .i64 0), (.bool false), (.int .u8 0)]) := by kernel_rfl
theorem sz9 : tsz Tryz.prog 9 = some 1 := by kernel_rfl
theorem ag9 : tag Tryz.prog 9 = some none := by kernel_rfl
theorem zc9 : tzc Tryz.prog 9 = some [(.str ⟨#[]⟩)] := by kernel_rfl
theorem sr9 : tsrc Tryz.prog 9 = true := by kernel_rfl
theorem cu9 : tcut Tryz.prog 9 = some none := by kernel_rfl
theorem ln9 : tlen Tryz.prog 9 = some .str := by kernel_rfl
theorem sz10 : tsz Tryz.prog 10 = some 1 := by kernel_rfl
theorem ag10 : tag Tryz.prog 10 = some none := by kernel_rfl
theorem zc10 : tzc Tryz.prog 10 = some [(.str ⟨#[]⟩)] := by kernel_rfl
theorem sr10 : tsrc Tryz.prog 10 = true := by kernel_rfl
theorem ni10 : tni Tryz.prog 10 = true := by kernel_rfl
theorem ta10 : tas Tryz.prog 10 = some (.str ⟨#[]⟩) := by kernel_rfl
theorem cu10 : tcut Tryz.prog 10 = some none := by kernel_rfl
theorem ln10 : tlen Tryz.prog 10 = some .str := by kernel_rfl
theorem sz11 : tsz Tryz.prog 11 = some 1 := by kernel_rfl
theorem ag11 : tag Tryz.prog 11 = some none := by kernel_rfl
theorem zc11 : tzc Tryz.prog 11 = some [(.str ⟨#[]⟩)] := by kernel_rfl
theorem sr11 : tsrc Tryz.prog 11 = true := by kernel_rfl
theorem ni11 : tni Tryz.prog 11 = true := by kernel_rfl
theorem ta11 : tas Tryz.prog 11 = some (.str ⟨#[]⟩) := by kernel_rfl
theorem cu11 : tcut Tryz.prog 11 = some none := by kernel_rfl
theorem ln11 : tlen Tryz.prog 11 = some .str := by kernel_rfl
theorem sz12 : tsz Tryz.prog 12 = some 1 := by kernel_rfl
theorem ag12 : tag Tryz.prog 12 = some none := by kernel_rfl
theorem zc12 : tzc Tryz.prog 12 = some [(.int .u64 0)] := by kernel_rfl
theorem sr12 : tsrc Tryz.prog 12 = false := by kernel_rfl
theorem sz13 : tsz Tryz.prog 13 = some 2 := by kernel_rfl
theorem ag13 : tag Tryz.prog 13 = some (some 2) := by kernel_rfl
theorem zc13 : tzc Tryz.prog 13 = some [(.str ⟨#[]⟩), (.int .u64 0)] := by kernel_rfl
theorem sr13 : tsrc Tryz.prog 13 = true := by kernel_rfl
theorem fd13_0 : tfd Tryz.prog 13 0 = some (0, 9) := by kernel_rfl
theorem fo13_0 : tfo Tryz.prog 13 0 = some 0 := by kernel_rfl
theorem fd13_1 : tfd Tryz.prog 13 1 = some (1, 12) := by kernel_rfl
theorem fo13_1 : tfo Tryz.prog 13 1 = some 1 := by kernel_rfl
theorem pl13 : tpl Tryz.prog 13 = some [(0, 1), (1, 1)] := by kernel_rfl
theorem bd13 (ps : List (Nat × AV)) (K : AV → Prop) : aBuild Tryz.prog 13 ps K = aBld (tpl Tryz.prog 13) (tzc Tryz.prog 13) ps K := aBuild_eq (by rw [pl13]; rfl) ps K
theorem sz14 : tsz Tryz.prog 14 = some 2 := by kernel_rfl
theorem ag14 : tag Tryz.prog 14 = some (some 2) := by kernel_rfl
theorem zc14 : tzc Tryz.prog 14 = some [(.str ⟨#[]⟩), (.int .u64 0)] := by kernel_rfl
theorem sr14 : tsrc Tryz.prog 14 = true := by kernel_rfl
theorem fd14_0 : tfd Tryz.prog 14 0 = some (0, 9) := by kernel_rfl
theorem fo14_0 : tfo Tryz.prog 14 0 = some 0 := by kernel_rfl
theorem fd14_1 : tfd Tryz.prog 14 1 = some (1, 12) := by kernel_rfl
theorem fo14_1 : tfo Tryz.prog 14 1 = some 1 := by kernel_rfl
theorem pl14 : tpl Tryz.prog 14 = some [(0, 1), (1, 1)] := by kernel_rfl
theorem bd14 (ps : List (Nat × AV)) (K : AV → Prop) : aBuild Tryz.prog 14 ps K = aBld (tpl Tryz.prog 14) (tzc Tryz.prog 14) ps K := aBuild_eq (by rw [pl14]; rfl) ps K
theorem ni14 : tni Tryz.prog 14 = true := by kernel_rfl
theorem ta14 : tas Tryz.prog 14 = some (.agg [(.str ⟨#[]⟩), (.int .u64 0)]) := by kernel_rfl
theorem sz15 : tsz Tryz.prog 15 = some 1 := by kernel_rfl
theorem ag15 : tag Tryz.prog 15 = some none := by kernel_rfl
theorem zc15 : tzc Tryz.prog 15 = some [(.ptr none)] := by kernel_rfl
theorem sr15 : tsrc Tryz.prog 15 = true := by kernel_rfl
theorem ni15 : tni Tryz.prog 15 = true := by kernel_rfl
theorem ta15 : tas Tryz.prog 15 = some (.ptr none) := by kernel_rfl
theorem sz16 : tsz Tryz.prog 16 = some 1 := by kernel_rfl
theorem ag16 : tag Tryz.prog 16 = some none := by kernel_rfl
theorem zc16 : tzc Tryz.prog 16 = some [(.ptr none)] := by kernel_rfl
theorem sr16 : tsrc Tryz.prog 16 = true := by kernel_rfl
theorem ni16 : tni Tryz.prog 16 = true := by kernel_rfl
theorem ta16 : tas Tryz.prog 16 = some (.ptr none) := by kernel_rfl
theorem sz17 : tsz Tryz.prog 17 = some 1 := by kernel_rfl
theorem ag17 : tag Tryz.prog 17 = some none := by kernel_rfl
theorem zc17 : tzc Tryz.prog 17 = some [(.ptr none)] := by kernel_rfl
theorem sr17 : tsrc Tryz.prog 17 = true := by kernel_rfl
theorem ni17 : tni Tryz.prog 17 = true := by kernel_rfl
theorem ta17 : tas Tryz.prog 17 = some (.ptr none) := by kernel_rfl
theorem sz18 : tsz Tryz.prog 18 = some 1 := by kernel_rfl
theorem ag18 : tag Tryz.prog 18 = some (some 1) := by kernel_rfl
theorem zc18 : tzc Tryz.prog 18 = some [(.ptr none)] := by kernel_rfl
theorem sr18 : tsrc Tryz.prog 18 = true := by kernel_rfl
theorem fd18_0 : tfd Tryz.prog 18 0 = some (0, 17) := by kernel_rfl
theorem fo18_0 : tfo Tryz.prog 18 0 = some 0 := by kernel_rfl
theorem pl18 : tpl Tryz.prog 18 = some [(0, 1)] := by kernel_rfl
theorem bd18 (ps : List (Nat × AV)) (K : AV → Prop) : aBuild Tryz.prog 18 ps K = aBld (tpl Tryz.prog 18) (tzc Tryz.prog 18) ps K := aBuild_eq (by rw [pl18]; rfl) ps K
theorem sz19 : tsz Tryz.prog 19 = some 1 := by kernel_rfl
theorem ag19 : tag Tryz.prog 19 = some (some 1) := by kernel_rfl
theorem zc19 : tzc Tryz.prog 19 = some [(.ptr none)] := by kernel_rfl
theorem sr19 : tsrc Tryz.prog 19 = true := by kernel_rfl
theorem fd19_0 : tfd Tryz.prog 19 0 = some (0, 17) := by kernel_rfl
theorem fo19_0 : tfo Tryz.prog 19 0 = some 0 := by kernel_rfl
theorem pl19 : tpl Tryz.prog 19 = some [(0, 1)] := by kernel_rfl
theorem bd19 (ps : List (Nat × AV)) (K : AV → Prop) : aBuild Tryz.prog 19 ps K = aBld (tpl Tryz.prog 19) (tzc Tryz.prog 19) ps K := aBuild_eq (by rw [pl19]; rfl) ps K
theorem ni19 : tni Tryz.prog 19 = true := by kernel_rfl
theorem ta19 : tas Tryz.prog 19 = some (.agg [(.ptr none)]) := by kernel_rfl
theorem sz20 : tsz Tryz.prog 20 = some 1 := by kernel_rfl
theorem ag20 : tag Tryz.prog 20 = some none := by kernel_rfl
theorem zc20 : tzc Tryz.prog 20 = some [.nilIface] := by kernel_rfl
theorem sr20 : tsrc Tryz.prog 20 = true := by kernel_rfl
theorem if20 : tifc Tryz.prog 20 = true := by kernel_rfl
theorem sz21 : tsz Tryz.prog 21 = some 1 := by kernel_rfl
theorem ag21 : tag Tryz.prog 21 = some none := by kernel_rfl
theorem zc21 : tzc Tryz.prog 21 = some [(.int .i32 0)] := by kernel_rfl
theorem sr21 : tsrc Tryz.prog 21 = false := by kernel_rfl
theorem sz22 : tsz Tryz.prog 22 = some 1 := by kernel_rfl
theorem ag22 : tag Tryz.prog 22 = some none := by kernel_rfl
theorem zc22 : tzc Tryz.prog 22 = some [(.sl [] .full)] := by kernel_rfl
theorem sr22 : tsrc Tryz.prog 22 = true := by kernel_rfl
theorem el22 : tel Tryz.prog 22 = some (none, 1) := by kernel_rfl
theorem cu22 : tcut Tryz.prog 22 = some (some 1) := by kernel_rfl
theorem ap22 : tap Tryz.prog 22 = some (1, 16) := by kernel_rfl
theorem bs22 : tbs Tryz.prog 22 = some 1 := by kernel_rfl
theorem ms22 : tms Tryz.prog 22 = some (1, 16, [(.str ⟨#[]⟩)], 9) := by kernel_rfl
theorem mm22 (l c : AV) (h : AH) (K : AV → AH → Prop) : aMakeSlice Tryz.prog 22 l c h K = aMkT (tms Tryz.prog 22) l c h K := aMakeSlice_eq (by rw [ms22]; rfl) l c K
theorem mc22 (x : AV) (h : AH) (K : AV → AH → Prop) : aClear Tryz.prog 22 x h K = aClT (tms Tryz.prog 22) x h K := aClear_eq (by rw [ms22]; rfl) x K
theorem mb22 (n : Nat) (ps : List (Nat × AV)) (h : AH) (K : AV → AH → Prop) : aBuildSliceM Tryz.prog 22 n ps h K = aBsM (tms Tryz.prog 22) n ps h K := aBuildSliceM_eq (by rw [ms22]; rfl) n ps K
theorem ma22 (s x : AV) (h : AH) (K : AV → AH → Prop) : aAppendM Tryz.prog 22 22 s x h K = aApM (tms Tryz.prog 22) s x h K := aAppendM_eq sr22 (by rw [ms22]; rfl) s x K
theorem ae22_22 (s x : AV) (h : AH) (K : AV → AH → Prop) : aAppend Tryz.prog 22 22 s x h K = aAp (tap Tryz.prog 22) s x h K := aAppend_eq sr22 s x K
theorem ln22 : tlen Tryz.prog 22 = some .sl := by kernel_rfl
theorem sz23 : tsz Tryz.prog 23 = some 1 := by kernel_rfl
theorem ag23 : tag Tryz.prog 23 = some none := by kernel_rfl
theorem zc23 : tzc Tryz.prog 23 = some [(.sl [] .full)] := by kernel_rfl
theorem sr23 : tsrc Tryz.prog 23 = true := by kernel_rfl
theorem el23 : tel Tryz.prog 23 = some (none, 8) := by kernel_rfl
theorem cu23 : tcut Tryz.prog 23 = some (some 8) := by kernel_rfl
theorem ap23 : tap Tryz.prog 23 = some (8, 96) := by kernel_rfl
theorem bs23 : tbs Tryz.prog 23 = some 8 := by kernel_rfl
theorem ms23 : tms Tryz.prog 23 = some (8, 96, [(.str ⟨#[]⟩), (.int .i64 0), (.int .i64 0), (.int .i64 0), (.int .i64 0), (.int .i64 0), (.str ⟨#[]⟩), (.sl [] .full)], 50) := by kernel_rfl
theorem mm23 (l c : AV) (h : AH) (K : AV → AH → Prop) : aMakeSlice Tryz.prog 23 l c h K = aMkT (tms Tryz.prog 23) l c h K := aMakeSlice_eq (by rw [ms23]; rfl) l c K
theorem mc23 (x : AV) (h : AH) (K : AV → AH → Prop) : aClear Tryz.prog 23 x h K = aClT (tms Tryz.prog 23) x h K := aClear_eq (by rw [ms23]; rfl) x K
theorem mb23 (n : Nat) (ps : List (Nat × AV)) (h : AH) (K : AV → AH → Prop) : aBuildSliceM Tryz.prog 23 n ps h K = aBsM (tms Tryz.prog 23) n ps h K := aBuildSliceM_eq (by rw [ms23]; rfl) n ps K
theorem ma23 (s x : AV) (h : AH) (K : AV → AH → Prop) : aAppendM Tryz.prog 23 23 s x h K = aApM (tms Tryz.prog 23) s x h K := aAppendM_eq sr23 (by rw [ms23]; rfl) s x K
theorem ae23_23 (s x : AV) (h : AH) (K : AV → AH → Prop) : aAppend Tryz.prog 23 23 s x h K = aAp (tap Tryz.prog 23) s x h K := aAppend_eq sr23 s x K
theorem ln23 : tlen Tryz.prog 23 = some .sl := by kernel_rfl
theorem sz24 : tsz Tryz.prog 24 = some 1 := by kernel_rfl
theorem ag24 : tag Tryz.prog 24 = some none := by kernel_rfl
theorem zc24 : tzc Tryz.prog 24 = some [(.sl [] .full)] := by kernel_rfl
theorem sr24 : tsrc Tryz.prog 24 = true := by kernel_rfl
theorem el24 : tel Tryz.prog 24 = some (none, 5) := by kernel_rfl
theorem cu24 : tcut Tryz.prog 24 = some (some 5) := by kernel_rfl
theorem ap24 : tap Tryz.prog 24 = some (5, 64) := by kernel_rfl
theorem bs24 : tbs Tryz.prog 24 = some 5 := by kernel_rfl
theorem ms24 : tms Tryz.prog 24 = some (5, 64, [(.int .i64 0), (.int .i64 0), (.int .i64 0), (.str ⟨#[]⟩), (.sl [] .full)], 26) := by kernel_rfl
theorem mm24 (l c : AV) (h : AH) (K : AV → AH → Prop) : aMakeSlice Tryz.prog 24 l c h K = aMkT (tms Tryz.prog 24) l c h K := aMakeSlice_eq (by rw [ms24]; rfl) l c K
theorem mc24 (x : AV) (h : AH) (K : AV → AH → Prop) : aClear Tryz.prog 24 x h K = aClT (tms Tryz.prog 24) x h K := aClear_eq (by rw [ms24]; rfl) x K
theorem mb24 (n : Nat) (ps : List (Nat × AV)) (h : AH) (K : AV → AH → Prop) : aBuildSliceM Tryz.prog 24 n ps h K = aBsM (tms Tryz.prog 24) n ps h K := aBuildSliceM_eq (by rw [ms24]; rfl) n ps K
theorem ma24 (s x : AV) (h : AH) (K : AV → AH → Prop) : aAppendM Tryz.prog 24 24 s x h K = aApM (tms Tryz.prog 24) s x h K := aAppendM_eq sr24 (by rw [ms24]; rfl) s x K
theorem ae24_24 (s x : AV) (h : AH) (K : AV → AH → Prop) : aAppend Tryz.prog 24 24 s x h K = aAp (tap Tryz.prog 24) s x h K := aAppend_eq sr24 s x K
theorem ln24 : tlen Tryz.prog 24 = some .sl := by kernel_rfl
theorem sz25 : tsz Tryz.prog 25 = some 5 := by kernel_rfl
theorem ag25 : tag Tryz.prog 25 = some (some 5) := by kernel_rfl
theorem zc25 : tzc Tryz.prog 25 = some [(.int .i64 0), (.int .i64 0), (.int .i64 0), (.str ⟨#[]⟩), (.sl [] .full)] := by kernel_rfl
theorem sr25 : tsrc Tryz.prog 25 = true := by kernel_rfl
theorem fd25_0 : tfd Tryz.prog 25 0 = some (0, 3) := by kernel_rfl
theorem fo25_0 : tfo Tryz.prog 25 0 = some 0 := by kernel_rfl
theorem fd25_1 : tfd Tryz.prog 25 1 = some (1, 3) := by kernel_rfl
theorem fo25_1 : tfo Tryz.prog 25 1 = some 1 := by kernel_rfl
theorem fd25_2 : tfd Tryz.prog 25 2 = some (2, 3) := by kernel_rfl
theorem fo25_2 : tfo Tryz.prog 25 2 = some 2 := by kernel_rfl
theorem fd25_3 : tfd Tryz.prog 25 3 = some (3, 9) := by kernel_rfl
theorem fo25_3 : tfo Tryz.prog 25 3 = some 3 := by kernel_rfl
theorem fd25_4 : tfd Tryz.prog 25 4 = some (4, 24) := by kernel_rfl
theorem fo25_4 : tfo Tryz.prog 25 4 = some 4 := by kernel_rfl
theorem pl25 : tpl Tryz.prog 25 = some [(0, 1), (1, 1), (2, 1), (3, 1), (4, 1)] := by kernel_rfl
theorem bd25 (ps : List (Nat × AV)) (K : AV → Prop) : aBuild Tryz.prog 25 ps K = aBld (tpl Tryz.prog 25) (tzc Tryz.prog 25) ps K := aBuild_eq (by rw [pl25]; rfl) ps K
theorem sz26 : tsz Tryz.prog 26 = some 5 := by kernel_rfl
theorem ag26 : tag Tryz.prog 26 = some (some 5) := by kernel_rfl
theorem zc26 : tzc Tryz.prog 26 = some [(.int .i64 0), (.int .i64 0), (.int .i64 0), (.str ⟨#[]⟩), (.sl [] .full)] := by kernel_rfl
theorem sr26 : tsrc Tryz.prog 26 = true := by kernel_rfl
theorem fd26_0 : tfd Tryz.prog 26 0 = some (0, 3) := by kernel_rfl
theorem fo26_0 : tfo Tryz.prog 26 0 = some 0 := by kernel_rfl
theorem fd26_1 : tfd Tryz.prog 26 1 = some (1, 3) := by kernel_rfl
theorem fo26_1 : tfo Tryz.prog 26 1 = some 1 := by kernel_rfl
theorem fd26_2 : tfd Tryz.prog 26 2 = some (2, 3) := by kernel_rfl
theorem fo26_2 : tfo Tryz.prog 26 2 = some 2 := by kernel_rfl
theorem fd26_3 : tfd Tryz.prog 26 3 = some (3, 9) := by kernel_rfl
theorem fo26_3 : tfo Tryz.prog 26 3 = some 3 := by kernel_rfl
theorem fd26_4 : tfd Tryz.prog 26 4 = some (4, 24) := by kernel_rfl
theorem fo26_4 : tfo Tryz.prog 26 4 = some 4 := by kernel_rfl
theorem pl26 : tpl Tryz.prog 26 = some [(0, 1), (1, 1), (2, 1), (3, 1), (4, 1)] := by kernel_rfl
theorem bd26 (ps : List (Nat × AV)) (K : AV → Prop) : aBuild Tryz.prog 26 ps K = aBld (tpl Tryz.prog 26) (tzc Tryz.prog 26) ps K := aBuild_eq (by rw [pl26]; rfl) ps K
theorem ni26 : tni Tryz.prog 26 = true := by kernel_rfl
theorem ta26 : tas Tryz.prog 26 = some (.agg [(.int .i64 0), (.int .i64 0), (.int .i64 0), (.str ⟨#[]⟩), (.sl [] .full)]) := by kernel_rfl
theorem sz27 : tsz Tryz.prog 27 = some 10 := by kernel_rfl
theorem ag27 : tag Tryz.prog 27 = some (some 10) := by kernel_rfl
theorem zc27 : tzc Tryz.prog 27 = some [(.str ⟨#[]⟩), (.sl [] .full), (.sl [] .full), (.sl [] .full), (.int .i64 0), (.int .i64 0), (.int .i64 0), (.str ⟨#[]⟩), (.sl [] .full), (.int .i64 0)] := by kernel_rfl
theorem sr27 : tsrc Tryz.prog 27 = true := by kernel_rfl
theorem fd27_0 : tfd Tryz.prog 27 0 = some (0, 9) := by kernel_rfl
theorem fo27_0 : tfo Tryz.prog 27 0 = some 0 := by kernel_rfl
theorem fd27_1 : tfd Tryz.prog 27 1 = some (1, 22) := by kernel_rfl
theorem fo27_1 : tfo Tryz.prog 27 1 = some 1 := by kernel_rfl
theorem fd27_2 : tfd Tryz.prog 27 2 = some (2, 22) := by kernel_rfl
theorem fo27_2 : tfo Tryz.prog 27 2 = some 2 := by kernel_rfl
theorem fd27_3 : tfd Tryz.prog 27 3 = some (3, 23) := by kernel_rfl
theorem fo27_3 : tfo Tryz.prog 27 3 = some 3 := by kernel_rfl
theorem fd27_4 : tfd Tryz.prog 27 4 = some (4, 26) := by kernel_rfl
theorem fo27_4 : tfo Tryz.prog 27 4 = some 4 := by kernel_rfl
theorem fd27_5 : tfd Tryz.prog 27 5 = some (9, 3) := by kernel_rfl
theorem fo27_5 : tfo Tryz.prog 27 5 = some 9 := by kernel_rfl
theorem pl27 : tpl Tryz.prog 27 = some [(0, 1), (1, 1), (2, 1), (3, 1), (4, 5), (9, 1)] := by kernel_rfl
theorem bd27 (ps : List (Nat × AV)) (K : AV → Prop) : aBuild Tryz.prog 27 ps K = aBld (tpl Tryz.prog 27) (tzc Tryz.prog 27) ps K := aBuild_eq (by rw [pl27]; rfl) ps K
theorem sz28 : tsz Tryz.prog 28 = some 10 := by kernel_rfl
theorem ag28 : tag Tryz.prog 28 = some (some 10) := by kernel_rfl
theorem zc28 : tzc Tryz.prog 28 = some [(.str ⟨#[]⟩), (.sl [] .full), (.sl [] .full), (.sl [] .full), (.int .i64 0), (.int .i64 0), (.int .i64 0), (.str ⟨#[]⟩), (.sl [] .full), (.int .i64 0)] := by kernel_rfl
theorem sr28 : tsrc Tryz.prog 28 = true := by kernel_rfl
theorem fd28_0 : tfd Tryz.prog 28 0 = some (0, 9) := by kernel_rfl
theorem fo28_0 : tfo Tryz.prog 28 0 = some 0 := by kernel_rfl
theorem fd28_1 : tfd Tryz.prog 28 1 = some (1, 22) := by kernel_rfl
theorem fo28_1 : tfo Tryz.prog 28 1 = some 1 := by kernel_rfl
theorem fd28_2 : tfd Tryz.prog 28 2 = some (2, 22) := by kernel_rfl
theorem fo28_2 : tfo Tryz.prog 28 2 = some 2 := by kernel_rfl
theorem fd28_3 : tfd Tryz.prog 28 3 = some (3, 23) := by kernel_rfl
theorem fo28_3 : tfo Tryz.prog 28 3 = some 3 := by kernel_rfl
theorem fd28_4 : tfd Tryz.prog 28 4 = some (4, 26) := by kernel_rfl
theorem fo28_4 : tfo Tryz.prog 28 4 = some 4 := by kernel_rfl
theorem fd28_5 : tfd Tryz.prog 28 5 = some (9, 3) := by kernel_rfl
theorem fo28_5 : tfo Tryz.prog 28 5 = some 9 := by kernel_rfl
theorem pl28 : tpl Tryz.prog 28 = some [(0, 1), (1, 1), (2, 1), (3, 1), (4, 5), (9, 1)] := by kernel_rfl
theorem bd28 (ps : List (Nat × AV)) (K : AV → Prop) : aBuild Tryz.prog 28 ps K = aBld (tpl Tryz.prog 28) (tzc Tryz.prog 28) ps K := aBuild_eq (by rw [pl28]; rfl) ps K
theorem ni28 : tni Tryz.prog 28 = true := by kernel_rfl
theorem ta28 : tas Tryz.prog 28 = some (.agg [(.str ⟨#[]⟩), (.sl [] .full), (.sl [] .full), (.sl [] .full), (.int .i64 0), (.int .i64 0), (.int .i64 0), (.str ⟨#[]⟩), (.sl [] .full), (.int .i64 0)]) := by kernel_rfl
theorem sz29 : tsz Tryz.prog 29 = some 1 := by kernel_rfl
theorem ag29 : tag Tryz.prog 29 = some none := by kernel_rfl
theorem zc29 : tzc Tryz.prog 29 = some [(.sl [] .full)] := by kernel_rfl
theorem sr29 : tsrc Tryz.prog 29 = true := by kernel_rfl
theorem el29 : tel Tryz.prog 29 = some (none, 1) := by kernel_rfl
theorem cu29 : tcut Tryz.prog 29 = some (some 1) := by kernel_rfl
theorem ap29 : tap Tryz.prog 29 = some (1, 24) := by kernel_rfl
theorem bs29 : tbs Tryz.prog 29 = some 1 := by kernel_rfl
theorem ms29 : tms Tryz.prog 29 = some (1, 24, [(.sl [] .full)], 51) := by kernel_rfl
theorem mm29 (l c : AV) (h : AH) (K : AV → AH → Prop) : aMakeSlice Tryz.prog 29 l c h K = aMkT (tms Tryz.prog 29) l c h K := aMakeSlice_eq (by rw [ms29]; rfl) l c K
theorem mc29 (x : AV) (h : AH) (K : AV → AH → Prop) : aClear Tryz.prog 29 x h K = aClT (tms Tryz.prog 29) x h K := aClear_eq (by rw [ms29]; rfl) x K
theorem mb29 (n : Nat) (ps : List (Nat × AV)) (h : AH) (K : AV → AH → Prop) : aBuildSliceM Tryz.prog 29 n ps h K = aBsM (tms Tryz.prog 29) n ps h K := aBuildSliceM_eq (by rw [ms29]; rfl) n ps K
theorem ma29 (s x : AV) (h : AH) (K : AV → AH → Prop) : aAppendM Tryz.prog 29 29 s x h K = aApM (tms Tryz.prog 29) s x h K := aAppendM_eq sr29 (by rw [ms29]; rfl) s x K
theorem ae29_29 (s x : AV) (h : AH) (K : AV → AH → Prop) : aAppend Tryz.prog 29 29 s x h K = aAp (tap Tryz.prog 29) s x h K := aAppend_eq sr29 s x K
theorem ln29 : tlen Tryz.prog 29 = some .sl := by kernel_rfl
theorem sz30 : tsz Tryz.prog 30 = some 1 := by kernel_rfl
theorem ag30 : tag Tryz.prog 30 = some none := by kernel_rfl
theorem zc30 : tzc Tryz.prog 30 = some [.nilFunc] := by kernel_rfl
theorem sr30 : tsrc Tryz.prog 30 = true := by kernel_rfl
theorem sz31 : tsz Tryz.prog 31 = some 1 := by kernel_rfl
theorem ag31 : tag Tryz.prog 31 = some none := by kernel_rfl
theorem zc31 : tzc Tryz.prog 31 = some [.nilFunc] := by kernel_rfl
theorem sr31 : tsrc Tryz.prog 31 = true := by kernel_rfl
theorem sz32 : tsz Tryz.prog 32 = some 1 := by kernel_rfl
theorem ag32 : tag Tryz.prog 32 = some none := by kernel_rfl
theorem zc32 : tzc Tryz.prog 32 = some [(.sl [] .full)] := by kernel_rfl
theorem sr32 : tsrc Tryz.prog 32 = true := by kernel_rfl
theorem el32 : tel Tryz.prog 32 = some (none, 3) := by kernel_rfl
theorem cu32 : tcut Tryz.prog 32 = some (some 3) := by kernel_rfl
theorem ap32 : tap Tryz.prog 32 = some (3, 40) := by kernel_rfl
theorem bs32 : tbs Tryz.prog 32 = some 3 := by kernel_rfl
theorem ms32 : tms Tryz.prog 32 = some (3, 40, [(.int .i64 0), (.int .i64 0), (.sl [] .full)], 34) := by kernel_rfl
theorem mm32 (l c : AV) (h : AH) (K : AV → AH → Prop) : aMakeSlice Tryz.prog 32 l c h K = aMkT (tms Tryz.prog 32) l c h K := aMakeSlice_eq (by rw [ms32]; rfl) l c K
theorem mc32 (x : AV) (h : AH) (K : AV → AH → Prop) : aClear Tryz.prog 32 x h K = aClT (tms Tryz.prog 32) x h K := aClear_eq (by rw [ms32]; rfl) x K
theorem mb32 (n : Nat) (ps : List (Nat × AV)) (h : AH) (K : AV → AH → Prop) : aBuildSliceM Tryz.prog 32 n ps h K = aBsM (tms Tryz.prog 32) n ps h K := aBuildSliceM_eq (by rw [ms32]; rfl) n ps K
theorem ma32 (s x : AV) (h : AH) (K : AV → AH → Prop) : aAppendM Tryz.prog 32 32 s x h K = aApM (tms Tryz.prog 32) s x h K := aAppendM_eq sr32 (by rw [ms32]; rfl) s x K
theorem ae32_32 (s x : AV) (h : AH) (K : AV → AH → Prop) : aAppend Tryz.prog 32 32 s x h K = aAp (tap Tryz.prog 32) s x h K := aAppend_eq sr32 s x K
theorem ln32 : tlen Tryz.prog 32 = some .sl := by kernel_rfl
theorem sz33 : tsz Tryz.prog 33 = some 3 := by kernel_rfl
theorem ag33 : tag Tryz.prog 33 = some (some 3) := by kernel_rfl
theorem zc33 : tzc Tryz.prog 33 = some [(.int .i64 0), (.int .i64 0), (.sl [] .full)] := by kernel_rfl
theorem sr33 : tsrc Tryz.prog 33 = true := by kernel_rfl
theorem fd33_0 : tfd Tryz.prog 33 0 = some (0, 3) := by kernel_rfl
theorem fo33_0 : tfo Tryz.prog 33 0 = some 0 := by kernel_rfl
theorem fd33_1 : tfd Tryz.prog 33 1 = some (1, 3) := by kernel_rfl
theorem fo33_1 : tfo Tryz.prog 33 1 = some 1 := by kernel_rfl
theorem fd33_2 : tfd Tryz.prog 33 2 = some (2, 32) := by kernel_rfl
theorem fo33_2 : tfo Tryz.prog 33 2 = some 2 := by kernel_rfl
theorem pl33 : tpl Tryz.prog 33 = some [(0, 1), (1, 1), (2, 1)] := by kernel_rfl
theorem bd33 (ps : List (Nat × AV)) (K : AV → Prop) : aBuild Tryz.prog 33 ps K = aBld (tpl Tryz.prog 33) (tzc Tryz.prog 33) ps K := aBuild_eq (by rw [pl33]; rfl) ps K
theorem sz34 : tsz Tryz.prog 34 = some 3 := by kernel_rfl
theorem ag34 : tag Tryz.prog 34 = some (some 3) := by kernel_rfl
theorem zc34 : tzc Tryz.prog 34 = some [(.int .i64 0), (.int .i64 0), (.sl [] .full)] := by kernel_rfl
theorem sr34 : tsrc Tryz.prog 34 = true := by kernel_rfl
theorem fd34_0 : tfd Tryz.prog 34 0 = some (0, 3) := by kernel_rfl
theorem fo34_0 : tfo Tryz.prog 34 0 = some 0 := by kernel_rfl
theorem fd34_1 : tfd Tryz.prog 34 1 = some (1, 3) := by kernel_rfl
theorem fo34_1 : tfo Tryz.prog 34 1 = some 1 := by kernel_rfl
theorem fd34_2 : tfd Tryz.prog 34 2 = some (2, 32) := by kernel_rfl
theorem fo34_2 : tfo Tryz.prog 34 2 = some 2 := by kernel_rfl
theorem pl34 : tpl Tryz.prog 34 = some [(0, 1), (1, 1), (2, 1)] := by kernel_rfl
theorem bd34 (ps : List (Nat × AV)) (K : AV → Prop) : aBuild Tryz.prog 34 ps K = aBld (tpl Tryz.prog 34) (tzc Tryz.prog 34) ps K := aBuild_eq (by rw [pl34]; rfl) ps K
theorem ni34 : tni Tryz.prog 34 = true := by kernel_rfl
theorem ta34 : tas Tryz.prog 34 = some (.agg [(.int .i64 0), (.int .i64 0), (.sl [] .full)]) := by kernel_rfl
theorem sz35 : tsz Tryz.prog 35 = some 1 := by kernel_rfl
theorem ag35 : tag Tryz.prog 35 = some none := by kernel_rfl
theorem zc35 : tzc Tryz.prog 35 = some [(.int .i64 0)] := by kernel_rfl
theorem sr35 : tsrc Tryz.prog 35 = false := by kernel_rfl
theorem ni35 : tni Tryz.prog 35 = true := by kernel_rfl
theorem ta35 : tas Tryz.prog 35 = some (.int .i64 0) := by kernel_rfl
theorem sz37 : tsz Tryz.prog 37 = some 1 := by kernel_rfl
theorem ag37 : tag Tryz.prog 37 = some none := by kernel_rfl
theorem zc37 : tzc Tryz.prog 37 = some [.nilFunc] := by kernel_rfl
theorem sr37 : tsrc Tryz.prog 37 = true := by kernel_rfl
theorem sz38 : tsz Tryz.prog 38 = some 1 := by kernel_rfl
theorem ag38 : tag Tryz.prog 38 = some none := by kernel_rfl
theorem zc38 : tzc Tryz.prog 38 = some [.nilFunc] := by kernel_rfl
theorem sr38 : tsrc Tryz.prog 38 = true := by kernel_rfl
theorem sz39 : tsz Tryz.prog 39 = some 1 := by kernel_rfl
theorem ag39 : tag Tryz.prog 39 = some none := by kernel_rfl
theorem zc39 : tzc Tryz.prog 39 = some [.nilFunc] := by kernel_rfl
theorem sr39 : tsrc Tryz.prog 39 = true := by kernel_rfl
theorem sz40 : tsz Tryz.prog 40 = some 1 := by kernel_rfl
theorem ag40 : tag Tryz.prog 40 = some none := by kernel_rfl
theorem zc40 : tzc Tryz.prog 40 = some [.nilFunc] := by kernel_rfl
theorem sr40 : tsrc Tryz.prog 40 = true := by kernel_rfl
theorem sz41 : tsz Tryz.prog 41 = some 1 := by kernel_rfl
theorem ag41 : tag Tryz.prog 41 = some none := by kernel_rfl
theorem zc41 : tzc Tryz.prog 41 = some [.nilFunc] := by kernel_rfl
theorem sr41 : tsrc Tryz.prog 41 = true := by kernel_rfl
theorem sz42 : tsz Tryz.prog 42 = some 1 := by kernel_rfl
theorem ag42 : tag Tryz.prog 42 = some none := by kernel_rfl
theorem zc42 : tzc Tryz.prog 42 = some [.nilFunc] := by kernel_rfl
theorem sr42 : tsrc Tryz.prog 42 = true := by kernel_rfl
theorem sz44 : tsz Tryz.prog 44 = some 1 := by kernel_rfl
theorem ag44 : tag Tryz.prog 44 = some none := by kernel_rfl
theorem zc44 : tzc Tryz.prog 44 = some [.nilFunc] := by kernel_rfl
theorem sr44 : tsrc Tryz.prog 44 = true := by kernel_rfl
theorem sz45 : tsz Tryz.prog 45 = some 1 := by kernel_rfl
theorem ag45 : tag Tryz.prog 45 = some none := by kernel_rfl
theorem zc45 : tzc Tryz.prog 45 = some [(.sl [] .full)] := by kernel_rfl
theorem sr45 : tsrc Tryz.prog 45 = true := by kernel_rfl
theorem el45 : tel Tryz.prog 45 = some (none, 1) := by kernel_rfl
theorem cu45 : tcut Tryz.prog 45 = some (some 1) := by kernel_rfl
theorem ap45 : tap Tryz.prog 45 = some (1, 8) := by kernel_rfl
theorem bs45 : tbs Tryz.prog 45 = some 1 := by kernel_rfl
theorem ms45 : tms Tryz.prog 45 = some (1, 8, [(.int .i64 0)], 3) := by kernel_rfl
theorem mm45 (l c : AV) (h : AH) (K : AV → AH → Prop) : aMakeSlice Tryz.prog 45 l c h K = aMkT (tms Tryz.prog 45) l c h K := aMakeSlice_eq (by rw [ms45]; rfl) l c K
theorem mc45 (x : AV) (h : AH) (K : AV → AH → Prop) : aClear Tryz.prog 45 x h K = aClT (tms Tryz.prog 45) x h K := aClear_eq (by rw [ms45]; rfl) x K
theorem mb45 (n : Nat) (ps : List (Nat × AV)) (h : AH) (K : AV → AH → Prop) : aBuildSliceM Tryz.prog 45 n ps h K = aBsM (tms Tryz.prog 45) n ps h K := aBuildSliceM_eq (by rw [ms45]; rfl) n ps K
theorem ma45 (s x : AV) (h : AH) (K : AV → AH → Prop) : aAppendM Tryz.prog 45 45 s x h K = aApM (tms Tryz.prog 45) s x h K := aAppendM_eq sr45 (by rw [ms45]; rfl) s x K
theorem ae45_45 (s x : AV) (h : AH) (K : AV → AH → Prop) : aAppend Tryz.prog 45 45 s x h K = aAp (tap Tryz.prog 45) s x h K := aAppend_eq sr45 s x K
theorem ln45 : tlen Tryz.prog 45 = some .sl := by kernel_rfl
theorem sz46 : tsz Tryz.prog 46 = some 1 := by kernel_rfl
theorem ag46 : tag Tryz.prog 46 = some none := by kernel_rfl
theorem zc46 : tzc Tryz.prog 46 = some [.nilFunc] := by kernel_rfl
theorem sr46 : tsrc Tryz.prog 46 = true := by kernel_rfl
theorem sz47 : tsz Tryz.prog 47 = some 1 := by kernel_rfl
theorem ag47 : tag Tryz.prog 47 = some none := by kernel_rfl
theorem zc47 : tzc Tryz.prog 47 = some [.nilFunc] := by kernel_rfl
theorem sr47 : tsrc Tryz.prog 47 = true := by kernel_rfl
theorem sz48 : tsz Tryz.prog 48 = some 1 := by kernel_rfl
theorem ag48 : tag Tryz.prog 48 = some none := by kernel_rfl
theorem zc48 : tzc Tryz.prog 48 = some [.nilFunc] := by kernel_rfl
theorem sr48 : tsrc Tryz.prog 48 = true := by kernel_rfl
theorem sz49 : tsz Tryz.prog 49 = some 8 := by kernel_rfl
theorem ag49 : tag Tryz.prog 49 = some (some 8) := by kernel_rfl
theorem zc49 : tzc Tryz.prog 49 = some [(.str ⟨#[]⟩), (.int .i64 0), (.int .i64 0), (.int .i64 0), (.int .i64 0), (.int .i64 0), (.str ⟨#[]⟩), (.sl [] .full)] := by kernel_rfl
theorem sr49 : tsrc Tryz.prog 49 = true := by kernel_rfl
theorem fd49_0 : tfd Tryz.prog 49 0 = some (0, 9) := by kernel_rfl
theorem fo49_0 : tfo Tryz.prog 49 0 = some 0 := by kernel_rfl
theorem fd49_1 : tfd Tryz.prog 49 1 = some (1, 3) := by kernel_rfl
theorem fo49_1 : tfo Tryz.prog 49 1 = some 1 := by kernel_rfl
theorem fd49_2 : tfd Tryz.prog 49 2 = some (2, 3) := by kernel_rfl
theorem fo49_2 : tfo Tryz.prog 49 2 = some 2 := by kernel_rfl
theorem fd49_3 : tfd Tryz.prog 49 3 = some (3, 26) := by kernel_rfl
theorem fo49_3 : tfo Tryz.prog 49 3 = some 3 := by kernel_rfl
theorem pl49 : tpl Tryz.prog 49 = some [(0, 1), (1, 1), (2, 1), (3, 5)] := by kernel_rfl
theorem bd49 (ps : List (Nat × AV)) (K : AV → Prop) : aBuild Tryz.prog 49 ps K = aBld (tpl Tryz.prog 49) (tzc Tryz.prog 49) ps K := aBuild_eq (by rw [pl49]; rfl) ps K
theorem sz50 : tsz Tryz.prog 50 = some 8 := by kernel_rfl
theorem ag50 : tag Tryz.prog 50 = some (some 8) := by kernel_rfl
theorem zc50 : tzc Tryz.prog 50 = some [(.str ⟨#[]⟩), (.int .i64 0), (.int .i64 0), (.int .i64 0), (.int .i64 0), (.int .i64 0), (.str ⟨#[]⟩), (.sl [] .full)] := by kernel_rfl
theorem sr50 : tsrc Tryz.prog 50 = true := by kernel_rfl
theorem fd50_0 : tfd Tryz.prog 50 0 = some (0, 9) := by kernel_rfl
theorem fo50_0 : tfo Tryz.prog 50 0 = some 0 := by kernel_rfl
theorem fd50_1 : tfd Tryz.prog 50 1 = some (1, 3) := by kernel_rfl
theorem fo50_1 : tfo Tryz.prog 50 1 = some 1 := by kernel_rfl
theorem fd50_2 : tfd Tryz.prog 50 2 = some (2, 3) := by kernel_rfl
theorem fo50_2 : tfo Tryz.prog 50 2 = some 2 := by kernel_rfl
theorem fd50_3 : tfd Tryz.prog 50 3 = some (3, 26) := by kernel_rfl
theorem fo50_3 : tfo Tryz.prog 50 3 = some 3 := by kernel_rfl
theorem pl50 : tpl Tryz.prog 50 = some [(0, 1), (1, 1), (2, 1), (3, 5)] := by kernel_rfl
theorem bd50 (ps : List (Nat × AV)) (K : AV → Prop) : aBuild Tryz.prog 50 ps K = aBld (tpl Tryz.prog 50) (tzc Tryz.prog 50) ps K := aBuild_eq (by rw [pl50]; rfl) ps K
theorem ni50 : tni Tryz.prog 50 = true := by kernel_rfl
theorem ta50 : tas Tryz.prog 50 = some (.agg [(.str ⟨#[]⟩), (.int .i64 0), (.int .i64 0), (.int .i64 0), (.int .i64 0), (.int .i64 0), (.str ⟨#[]⟩), (.sl [] .full)]) := by kernel_rfl
theorem sz51 : tsz Tryz.prog 51 = some 1 := by kernel_rfl
theorem ag51 : tag Tryz.prog 51 = some none := by kernel_rfl
theorem zc51 : tzc Tryz.prog 51 = some [(.sl [] .full)] := by kernel_rfl
theorem sr51 : tsrc Tryz.prog 51 = true := by kernel_rfl
theorem el51 : tel Tryz.prog 51 = some (none, 2) := by kernel_rfl
theorem cu51 : tcut Tryz.prog 51 = some (some 2) := by kernel_rfl
theorem ap51 : tap Tryz.prog 51 = some (2, 16) := by kernel_rfl
theorem bs51 : tbs Tryz.prog 51 = some 2 := by kernel_rfl
theorem ms51 : tms Tryz.prog 51 = some (2, 16, [(.int .i64 0), (.int .i64 0)], 75) := by kernel_rfl
theorem mm51 (l c : AV) (h : AH) (K : AV → AH → Prop) : aMakeSlice Tryz.prog 51 l c h K = aMkT (tms Tryz.prog 51) l c h K := aMakeSlice_eq (by rw [ms51]; rfl) l c K
theorem mc51 (x : AV) (h : AH) (K : AV → AH → Prop) : aClear Tryz.prog 51 x h K = aClT (tms Tryz.prog 51) x h K := aClear_eq (by rw [ms51]; rfl) x K
theorem mb51 (n : Nat) (ps : List (Nat × AV)) (h : AH) (K : AV → AH → Prop) : aBuildSliceM Tryz.prog 51 n ps h K = aBsM (tms Tryz.prog 51) n ps h K := aBuildSliceM_eq (by rw [ms51]; rfl) n ps K
theorem ma51 (s x : AV) (h : AH) (K : AV → AH → Prop) : aAppendM Tryz.prog 51 51 s x h K = aApM (tms Tryz.prog 51) s x h K := aAppendM_eq sr51 (by rw [ms51]; rfl) s x K
theorem ae51_51 (s x : AV) (h : AH) (K : AV → AH → Prop) : aAppend Tryz.prog 51 51 s x h K = aAp (tap Tryz.prog 51) s x h K := aAppend_eq sr51 s x K
theorem ln51 : tlen Tryz.prog 51 = some .sl := by kernel_rfl
theorem sz52 : tsz Tryz.prog 52 = some 1 := by kernel_rfl
theorem ag52 : tag Tryz.prog 52 = some none := by kernel_rfl
theorem zc52 : tzc Tryz.prog 52 = some [.nilFunc] := by kernel_rfl
theorem sr52 : tsrc Tryz.prog 52 = true := by kernel_rfl
theorem sz53 : tsz Tryz.prog 53 = some 1 := by kernel_rfl
theorem ag53 : tag Tryz.prog 53 = some none := by kernel_rfl
theorem zc53 : tzc Tryz.prog 53 = some [.nilFunc] := by kernel_rfl
theorem sr53 : tsrc Tryz.prog 53 = true := by kernel_rfl
theorem sz54 : tsz Tryz.prog 54 = some 1 := by kernel_rfl
theorem ag54 : tag Tryz.prog 54 = some none := by kernel_rfl
theorem zc54 : tzc Tryz.prog 54 = some [.nilFunc] := by kernel_rfl
theorem sr54 : tsrc Tryz.prog 54 = true := by kernel_rfl
theorem sz55 : tsz Tryz.prog 55 = some 1 := by kernel_rfl
theorem ag55 : tag Tryz.prog 55 = some none := by kernel_rfl
theorem zc55 : tzc Tryz.prog 55 = some [.nilFunc] := by kernel_rfl
theorem sr55 : tsrc Tryz.prog 55 = true := by kernel_rfl
theorem sz56 : tsz Tryz.prog 56 = some 2 := by kernel_rfl
theorem ag56 : tag Tryz.prog 56 = some (some 2) := by kernel_rfl
theorem zc56 : tzc Tryz.prog 56 = some [(.int .i64 0), (.sl [] .full)] := by kernel_rfl
theorem sr56 : tsrc Tryz.prog 56 = true := by kernel_rfl
theorem fd56_0 : tfd Tryz.prog 56 0 = some (0, 3) := by kernel_rfl
theorem fo56_0 : tfo Tryz.prog 56 0 = some 0 := by kernel_rfl
theorem fd56_1 : tfd Tryz.prog 56 1 = some (1, 29) := by kernel_rfl
theorem fo56_1 : tfo Tryz.prog 56 1 = some 1 := by kernel_rfl
theorem pl56 : tpl Tryz.prog 56 = some [(0, 1), (1, 1)] := by kernel_rfl
theorem bd56 (ps : List (Nat × AV)) (K : AV → Prop) : aBuild Tryz.prog 56 ps K = aBld (tpl Tryz.prog 56) (tzc Tryz.prog 56) ps K := aBuild_eq (by rw [pl56]; rfl) ps K
theorem sz57 : tsz Tryz.prog 57 = some 2 := by kernel_rfl
theorem ag57 : tag Tryz.prog 57 = some (some 2) := by kernel_rfl
theorem zc57 : tzc Tryz.prog 57 = some [(.int .i64 0), (.sl [] .full)] := by kernel_rfl
theorem sr57 : tsrc Tryz.prog 57 = true := by kernel_rfl
theorem fd57_0 : tfd Tryz.prog 57 0 = some (0, 3) := by kernel_rfl
theorem fo57_0 : tfo Tryz.prog 57 0 = some 0 := by kernel_rfl
theorem fd57_1 : tfd Tryz.prog 57 1 = some (1, 29) := by kernel_rfl
theorem fo57_1 : tfo Tryz.prog 57 1 = some 1 := by kernel_rfl
theorem pl57 : tpl Tryz.prog 57 = some [(0, 1), (1, 1)] := by kernel_rfl
theorem bd57 (ps : List (Nat × AV)) (K : AV → Prop) : aBuild Tryz.prog 57 ps K = aBld (tpl Tryz.prog 57) (tzc Tryz.prog 57) ps K := aBuild_eq (by rw [pl57]; rfl) ps K
theorem ni57 : tni Tryz.prog 57 = true := by kernel_rfl
theorem ta57 : tas Tryz.prog 57 = some (.agg [(.int .i64 0), (.sl [] .full)]) := by kernel_rfl
theorem sz58 : tsz Tryz.prog 58 = some 1 := by kernel_rfl
theorem ag58 : tag Tryz.prog 58 = some none := by kernel_rfl
theorem zc58 : tzc Tryz.prog 58 = some [.nilFunc] := by kernel_rfl
theorem sr58 : tsrc Tryz.prog 58 = true := by kernel_rfl
theorem sz59 : tsz Tryz.prog 59 = some 1 := by kernel_rfl
theorem ag59 : tag Tryz.prog 59 = some none := by kernel_rfl
theorem zc59 : tzc Tryz.prog 59 = some [.nilFunc] := by kernel_rfl
theorem sr59 : tsrc Tryz.prog 59 = true := by kernel_rfl
theorem sz60 : tsz Tryz.prog 60 = some 1 := by kernel_rfl
theorem ag60 : tag Tryz.prog 60 = some none := by kernel_rfl
theorem zc60 : tzc Tryz.prog 60 = some [.nilFunc] := by kernel_rfl
theorem sr60 : tsrc Tryz.prog 60 = true := by kernel_rfl
theorem sz61 : tsz Tryz.prog 61 = some 1 := by kernel_rfl
theorem ag61 : tag Tryz.prog 61 = some none := by kernel_rfl
theorem zc61 : tzc Tryz.prog 61 = some [(.map none)] := by kernel_rfl
theorem sr61 : tsrc Tryz.prog 61 = true := by kernel_rfl
theorem ln61 : tlen Tryz.prog 61 = some .map := by kernel_rfl
theorem mk61 : tmk Tryz.prog 61 = some (true, (.int .i64 0)) := by kernel_rfl
theorem sz62 : tsz Tryz.prog 62 = some 1 := by kernel_rfl
theorem ag62 : tag Tryz.prog 62 = some none := by kernel_rfl
theorem zc62 : tzc Tryz.prog 62 = some [.nilFunc] := by kernel_rfl
theorem sr62 : tsrc Tryz.prog 62 = true := by kernel_rfl
theorem sz63 : tsz Tryz.prog 63 = some 1 := by kernel_rfl
theorem ag63 : tag Tryz.prog 63 = some none := by kernel_rfl
theorem zc63 : tzc Tryz.prog 63 = some [.nilFunc] := by kernel_rfl
theorem sr63 : tsrc Tryz.prog 63 = true := by kernel_rfl
theorem sz64 : tsz Tryz.prog 64 = some 1 := by kernel_rfl
theorem ag64 : tag Tryz.prog 64 = some none := by kernel_rfl
theorem zc64 : tzc Tryz.prog 64 = some [.nilFunc] := by kernel_rfl
theorem sr64 : tsrc Tryz.prog 64 = true := by kernel_rfl
theorem sz65 : tsz Tryz.prog 65 = some 1 := by kernel_rfl
theorem ag65 : tag Tryz.prog 65 = some none := by kernel_rfl
theorem zc65 : tzc Tryz.prog 65 = some [.nilFunc] := by kernel_rfl
theorem sr65 : tsrc Tryz.prog 65 = true := by kernel_rfl
theorem sz66 : tsz Tryz.prog 66 = some 1 := by kernel_rfl
theorem ag66 : tag Tryz.prog 66 = some none := by kernel_rfl
theorem zc66 : tzc Tryz.prog 66 = some [.nilFunc] := by kernel_rfl
theorem sr66 : tsrc Tryz.prog 66 = true := by kernel_rfl
theorem sz67 : tsz Tryz.prog 67 = some 3 := by kernel_rfl
theorem ag67 : tag Tryz.prog 67 = some (some 3) := by kernel_rfl
theorem zc67 : tzc Tryz.prog 67 = some [(.int .i64 0), (.sl [] .full), (.sl [] .full)] := by kernel_rfl
theorem sr67 : tsrc Tryz.prog 67 = true := by kernel_rfl
theorem fd67_0 : tfd Tryz.prog 67 0 = some (0, 3) := by kernel_rfl
theorem fo67_0 : tfo Tryz.prog 67 0 = some 0 := by kernel_rfl
theorem fd67_1 : tfd Tryz.prog 67 1 = some (1, 29) := by kernel_rfl
theorem fo67_1 : tfo Tryz.prog 67 1 = some 1 := by kernel_rfl
theorem fd67_2 : tfd Tryz.prog 67 2 = some (2, 45) := by kernel_rfl
theorem fo67_2 : tfo Tryz.prog 67 2 = some 2 := by kernel_rfl
theorem pl67 : tpl Tryz.prog 67 = some [(0, 1), (1, 1), (2, 1)] := by kernel_rfl
theorem bd67 (ps : List (Nat × AV)) (K : AV → Prop) : aBuild Tryz.prog 67 ps K = aBld (tpl Tryz.prog 67) (tzc Tryz.prog 67) ps K := aBuild_eq (by rw [pl67]; rfl) ps K
theorem sz68 : tsz Tryz.prog 68 = some 3 := by kernel_rfl
theorem ag68 : tag Tryz.prog 68 = some (some 3) := by kernel_rfl
theorem zc68 : tzc Tryz.prog 68 = some [(.int .i64 0), (.sl [] .full), (.sl [] .full)] := by kernel_rfl
theorem sr68 : tsrc Tryz.prog 68 = true := by kernel_rfl
theorem fd68_0 : tfd Tryz.prog 68 0 = some (0, 3) := by kernel_rfl
theorem fo68_0 : tfo Tryz.prog 68 0 = some 0 := by kernel_rfl
theorem fd68_1 : tfd Tryz.prog 68 1 = some (1, 29) := by kernel_rfl
theorem fo68_1 : tfo Tryz.prog 68 1 = some 1 := by kernel_rfl
theorem fd68_2 : tfd Tryz.prog 68 2 = some (2, 45) := by kernel_rfl
theorem fo68_2 : tfo Tryz.prog 68 2 = some 2 := by kernel_rfl
theorem pl68 : tpl Tryz.prog 68 = some [(0, 1), (1, 1), (2, 1)] := by kernel_rfl
theorem bd68 (ps : List (Nat × AV)) (K : AV → Prop) : aBuild Tryz.prog 68 ps K = aBld (tpl Tryz.prog 68) (tzc Tryz.prog 68) ps K := aBuild_eq (by rw [pl68]; rfl) ps K
theorem ni68 : tni Tryz.prog 68 = true := by kernel_rfl
theorem ta68 : tas Tryz.prog 68 = some (.agg [(.int .i64 0), (.sl [] .full), (.sl [] .full)]) := by kernel_rfl
theorem sz69 : tsz Tryz.prog 69 = some 1 := by kernel_rfl
theorem ag69 : tag Tryz.prog 69 = some none := by kernel_rfl
theorem zc69 : tzc Tryz.prog 69 = some [.nilFunc] := by kernel_rfl
theorem sr69 : tsrc Tryz.prog 69 = true := by kernel_rfl
theorem sz70 : tsz Tryz.prog 70 = some 1 := by kernel_rfl
theorem ag70 : tag Tryz.prog 70 = some none := by kernel_rfl
theorem zc70 : tzc Tryz.prog 70 = some [.nilFunc] := by kernel_rfl
theorem sr70 : tsrc Tryz.prog 70 = true := by kernel_rfl
theorem sz71 : tsz Tryz.prog 71 = some 1 := by kernel_rfl
theorem ag71 : tag Tryz.prog 71 = some none := by kernel_rfl
theorem zc71 : tzc Tryz.prog 71 = some [(.map none)] := by kernel_rfl
theorem sr71 : tsrc Tryz.prog 71 = true := by kernel_rfl
theorem ln71 : tlen Tryz.prog 71 = some .map := by kernel_rfl
theorem mk71 : tmk Tryz.prog 71 = some (true, .nilFunc) := by kernel_rfl
theorem sz72 : tsz Tryz.prog 72 = some 1 := by kernel_rfl
theorem ag72 : tag Tryz.prog 72 = some none := by kernel_rfl
theorem zc72 : tzc Tryz.prog 72 = some [.nilFunc] := by kernel_rfl
theorem sr72 : tsrc Tryz.prog 72 = true := by kernel_rfl
theorem sz73 : tsz Tryz.prog 73 = some 1 := by kernel_rfl
theorem ag73 : tag Tryz.prog 73 = some none := by kernel_rfl
theorem zc73 : tzc Tryz.prog 73 = some [.nilFunc] := by kernel_rfl
theorem sr73 : tsrc Tryz.prog 73 = true := by kernel_rfl
theorem sz74 : tsz Tryz.prog 74 = some 2 := by kernel_rfl
theorem ag74 : tag Tryz.prog 74 = some (some 2) := by kernel_rfl
theorem zc74 : tzc Tryz.prog 74 = some [(.int .i64 0), (.int .i64 0)] := by kernel_rfl
theorem sr74 : tsrc Tryz.prog 74 = true := by kernel_rfl
theorem fd74_0 : tfd Tryz.prog 74 0 = some (0, 3) := by kernel_rfl
theorem fo74_0 : tfo Tryz.prog 74 0 = some 0 := by kernel_rfl
theorem fd74_1 : tfd Tryz.prog 74 1 = some (1, 3) := by kernel_rfl
theorem fo74_1 : tfo Tryz.prog 74 1 = some 1 := by kernel_rfl
theorem pl74 : tpl Tryz.prog 74 = some [(0, 1), (1, 1)] := by kernel_rfl
theorem bd74 (ps : List (Nat × AV)) (K : AV → Prop) : aBuild Tryz.prog 74 ps K = aBld (tpl Tryz.prog 74) (tzc Tryz.prog 74) ps K := aBuild_eq (by rw [pl74]; rfl) ps K
theorem sz75 : tsz Tryz.prog 75 = some 2 := by kernel_rfl
theorem ag75 : tag Tryz.prog 75 = some (some 2) := by kernel_rfl
theorem zc75 : tzc Tryz.prog 75 = some [(.int .i64 0), (.int .i64 0)] := by kernel_rfl
theorem sr75 : tsrc Tryz.prog 75 = true := by kernel_rfl
theorem fd75_0 : tfd Tryz.prog 75 0 = some (0, 3) := by kernel_rfl
theorem fo75_0 : tfo Tryz.prog 75 0 = some 0 := by kernel_rfl
theorem fd75_1 : tfd Tryz.prog 75 1 = some (1, 3) := by kernel_rfl
theorem fo75_1 : tfo Tryz.prog 75 1 = some 1 := by kernel_rfl
theorem pl75 : tpl Tryz.prog 75 = some [(0, 1), (1, 1)] := by kernel_rfl
theorem bd75 (ps : List (Nat × AV)) (K : AV → Prop) : aBuild Tryz.prog 75 ps K = aBld (tpl Tryz.prog 75) (tzc Tryz.prog 75) ps K := aBuild_eq (by rw [pl75]; rfl) ps K
theorem es75 : teqS Tryz.prog 75 = some [(0, .int), (1, .int)] := by kernel_rfl
theorem ni75 : tni Tryz.prog 75 = true := by kernel_rfl
theorem ta75 : tas Tryz.prog 75 = some (.agg [(.int .i64 0), (.int .i64 0)]) := by kernel_rfl
theorem sz76 : tsz Tryz.prog 76 = some 1 := by kernel_rfl
theorem ag76 : tag Tryz.prog 76 = some none := by kernel_rfl
theorem zc76 : tzc Tryz.prog 76 = some [.nilFunc] := by kernel_rfl
theorem sr76 : tsrc Tryz.prog 76 = true := by kernel_rfl
theorem sz77 : tsz Tryz.prog 77 = some 1 := by kernel_rfl
theorem ag77 : tag Tryz.prog 77 = some none := by kernel_rfl
theorem zc77 : tzc Tryz.prog 77 = some [.nilFunc] := by kernel_rfl
theorem sr77 : tsrc Tryz.prog 77 = true := by kernel_rfl
theorem sz78 : tsz Tryz.prog 78 = some 1 := by kernel_rfl
theorem ag78 : tag Tryz.prog 78 = some none := by kernel_rfl
theorem zc78 : tzc Tryz.prog 78 = some [.nilFunc] := by kernel_rfl
theorem sr78 : tsrc Tryz.prog 78 = true := by kernel_rfl
theorem sz79 : tsz Tryz.prog 79 = some 1 := by kernel_rfl
theorem ag79 : tag Tryz.prog 79 = some none := by kernel_rfl
theorem zc79 : tzc Tryz.prog 79 = some [.nilFunc] := by kernel_rfl
theorem sr79 : tsrc Tryz.prog 79 = true := by kernel_rfl
theorem sz80 : tsz Tryz.prog 80 = some 1 := by kernel_rfl
theorem ag80 : tag Tryz.prog 80 = some none := by kernel_rfl
theorem zc80 : tzc Tryz.prog 80 = some [.nilFunc] := by kernel_rfl
theorem sr80 : tsrc Tryz.prog 80 = true := by kernel_rfl
theorem sz82 : tsz Tryz.prog 82 = some 1 := by kernel_rfl
theorem ag82 : tag Tryz.prog 82 = some none := by kernel_rfl
theorem zc82 : tzc Tryz.prog 82 = some [.nilFunc] := by kernel_rfl
theorem sr82 : tsrc Tryz.prog 82 = true := by kernel_rfl
theorem sz83 : tsz Tryz.prog 83 = some 1 := by kernel_rfl
theorem ag83 : tag Tryz.prog 83 = some none := by kernel_rfl
theorem zc83 : tzc Tryz.prog 83 = some [.nilFunc] := by kernel_rfl
theorem sr83 : tsrc Tryz.prog 83 = true := by kernel_rfl
theorem sz84 : tsz Tryz.prog 84 = some 1 := by kernel_rfl
theorem ag84 : tag Tryz.prog 84 = some none := by kernel_rfl
theorem zc84 : tzc Tryz.prog 84 = some [.nilFunc] := by kernel_rfl
theorem sr84 : tsrc Tryz.prog 84 = true := by kernel_rfl
theorem sz85 : tsz Tryz.prog 85 = some 5 := by kernel_rfl
theorem ag85 : tag Tryz.prog 85 = some (some 5) := by kernel_rfl
theorem zc85 : tzc Tryz.prog 85 = some [.nilFunc, .nilFunc, .nilFunc, .nilFunc, .nilFunc] := by kernel_rfl
theorem sr85 : tsrc Tryz.prog 85 = true := by kernel_rfl
theorem es85 : teqS Tryz.prog 85 = none := by kernel_rfl
theorem el85 : tel Tryz.prog 85 = some (some 5, 1) := by kernel_rfl
theorem ln85 : tlen Tryz.prog 85 = some (.arr 5) := by kernel_rfl
theorem sz86 : tsz Tryz.prog 86 = some 1 := by kernel_rfl
theorem ag86 : tag Tryz.prog 86 = some none := by kernel_rfl
theorem zc86 : tzc Tryz.prog 86 = some [.nilFunc] := by kernel_rfl
theorem sr86 : tsrc Tryz.prog 86 = true := by kernel_rfl
theorem sz87 : tsz Tryz.prog 87 = some 1 := by kernel_rfl
theorem ag87 : tag Tryz.prog 87 = some none := by kernel_rfl
theorem zc87 : tzc Tryz.prog 87 = some [.nilFunc] := by kernel_rfl
theorem sr87 : tsrc Tryz.prog 87 = true := by kernel_rfl
theorem sz88 : tsz Tryz.prog 88 = some 1 := by kernel_rfl
theorem ag88 : tag Tryz.prog 88 = some none := by kernel_rfl
theorem zc88 : tzc Tryz.prog 88 = some [.nilFunc] := by kernel_rfl
theorem sr88 : tsrc Tryz.prog 88 = true := by kernel_rfl
theorem sz89 : tsz Tryz.prog 89 = some 1 := by kernel_rfl
theorem ag89 : tag Tryz.prog 89 = some none := by kernel_rfl
theorem zc89 : tzc Tryz.prog 89 = some [.nilFunc] := by kernel_rfl
theorem sr89 : tsrc Tryz.prog 89 = true := by kernel_rfl
theorem sz90 : tsz Tryz.prog 90 = some 1 := by kernel_rfl
theorem ag90 : tag Tryz.prog 90 = some none := by kernel_rfl
theorem zc90 : tzc Tryz.prog 90 = some [.nilFunc] := by kernel_rfl
theorem sr90 : tsrc Tryz.prog 90 = true := by kernel_rfl
theorem sz91 : tsz Tryz.prog 91 = some 1 := by kernel_rfl
theorem ag91 : tag Tryz.prog 91 = some none := by kernel_rfl
theorem zc91 : tzc Tryz.prog 91 = some [.nilFunc] := by kernel_rfl
theorem sr91 : tsrc Tryz.prog 91 = true := by kernel_rfl
theorem sz92 : tsz Tryz.prog 92 = some 1 := by kernel_rfl
theorem ag92 : tag Tryz.prog 92 = some none := by kernel_rfl
theorem zc92 : tzc Tryz.prog 92 = some [.nilFunc] := by kernel_rfl
theorem sr92 : tsrc Tryz.prog 92 = true := by kernel_rfl
theorem sz93 : tsz Tryz.prog 93 = some 1 := by kernel_rfl
theorem ag93 : tag Tryz.prog 93 = some none := by kernel_rfl
theorem zc93 : tzc Tryz.prog 93 = some [.nilFunc] := by kernel_rfl
theorem sr93 : tsrc Tryz.prog 93 = true := by kernel_rfl
theorem sz94 : tsz Tryz.prog 94 = some 1 := by kernel_rfl
theorem ag94 : tag Tryz.prog 94 = some none := by kernel_rfl
theorem zc94 : tzc Tryz.prog 94 = some [.nilFunc] := by kernel_rfl
theorem sr94 : tsrc Tryz.prog 94 = true := by kernel_rfl
theorem sz95 : tsz Tryz.prog 95 = some 1 := by kernel_rfl
theorem ag95 : tag Tryz.prog 95 = some none := by kernel_rfl
theorem zc95 : tzc Tryz.prog 95 = some [.nilFunc] := by kernel_rfl
theorem sr95 : tsrc Tryz.prog 95 = true := by kernel_rfl
theorem sz96 : tsz Tryz.prog 96 = some 1 := by kernel_rfl
theorem ag96 : tag Tryz.prog 96 = some none := by kernel_rfl
theorem zc96 : tzc Tryz.prog 96 = some [.nilFunc] := by kernel_rfl
theorem sr96 : tsrc Tryz.prog 96 = true := by kernel_rfl
theorem sz97 : tsz Tryz.prog 97 = some 1 := by kernel_rfl
theorem ag97 : tag Tryz.prog 97 = some none := by kernel_rfl
theorem zc97 : tzc Tryz.prog 97 = some [.nilFunc] := by kernel_rfl
theorem sr97 : tsrc Tryz.prog 97 = true := by kernel_rfl
theorem sz98 : tsz Tryz.prog 98 = some 6 := by kernel_rfl
theorem ag98 : tag Tryz.prog 98 = some (some 6) := by kernel_rfl
theorem zc98 : tzc Tryz.prog 98 = some [(.int .i64 0), (.int .i64 0), (.int .i64 0), (.str ⟨#[]⟩), (.sl [] .full), (.int .i64 0)] := by kernel_rfl
theorem sr98 : tsrc Tryz.prog 98 = true := by kernel_rfl
theorem fd98_0 : tfd Tryz.prog 98 0 = some (0, 26) := by kernel_rfl
theorem fo98_0 : tfo Tryz.prog 98 0 = some 0 := by kernel_rfl
theorem fd98_1 : tfd Tryz.prog 98 1 = some (5, 3) := by kernel_rfl
theorem fo98_1 : tfo Tryz.prog 98 1 = some 5 := by kernel_rfl
theorem pl98 : tpl Tryz.prog 98 = some [(0, 5), (5, 1)] := by kernel_rfl
theorem bd98 (ps : List (Nat × AV)) (K : AV → Prop) : aBuild Tryz.prog 98 ps K = aBld (tpl Tryz.prog 98) (tzc Tryz.prog 98) ps K := aBuild_eq (by rw [pl98]; rfl) ps K
theorem sz99 : tsz Tryz.prog 99 = some 6 := by kernel_rfl
theorem ag99 : tag Tryz.prog 99 = some (some 6) := by kernel_rfl
theorem zc99 : tzc Tryz.prog 99 = some [(.int .i64 0), (.int .i64 0), (.int .i64 0), (.str ⟨#[]⟩), (.sl [] .full), (.int .i64 0)] := by kernel_rfl
theorem sr99 : tsrc Tryz.prog 99 = true := by kernel_rfl
theorem fd99_0 : tfd Tryz.prog 99 0 = some (0, 26) := by kernel_rfl
theorem fo99_0 : tfo Tryz.prog 99 0 = some 0 := by kernel_rfl
theorem fd99_1 : tfd Tryz.prog 99 1 = some (5, 3) := by kernel_rfl
theorem fo99_1 : tfo Tryz.prog 99 1 = some 5 := by kernel_rfl
theorem pl99 : tpl Tryz.prog 99 = some [(0, 5), (5, 1)] := by kernel_rfl
theorem bd99 (ps : List (Nat × AV)) (K : AV → Prop) : aBuild Tryz.prog 99 ps K = aBld (tpl Tryz.prog 99) (tzc Tryz.prog 99) ps K := aBuild_eq (by rw [pl99]; rfl) ps K
theorem ni99 : tni Tryz.prog 99 = true := by kernel_rfl
theorem ta99 : tas Tryz.prog 99 = some (.agg [(.int .i64 0), (.int .i64 0), (.int .i64 0), (.str ⟨#[]⟩), (.sl [] .full), (.int .i64 0)]) := by kernel_rfl
theorem sz100 : tsz Tryz.prog 100 = some 1 := by kernel_rfl
theorem ag100 : tag Tryz.prog 100 = some none := by kernel_rfl
theorem zc100 : tzc Tryz.prog 100 = some [.nilFunc] := by kernel_rfl
theorem sr100 : tsrc Tryz.prog 100 = true := by kernel_rfl
theorem sz101 : tsz Tryz.prog 101 = some 1 := by kernel_rfl
theorem ag101 : tag Tryz.prog 101 = some none := by kernel_rfl
theorem zc101 : tzc Tryz.prog 101 = some [.nilFunc] := by kernel_rfl
theorem sr101 : tsrc Tryz.prog 101 = true := by kernel_rfl
theorem sz102 : tsz Tryz.prog 102 = some 1 := by kernel_rfl
theorem ag102 : tag Tryz.prog 102 = some none := by kernel_rfl
theorem zc102 : tzc Tryz.prog 102 = some [.nilFunc] := by kernel_rfl
theorem sr102 : tsrc Tryz.prog 102 = true := by kernel_rfl
theorem sz103 : tsz Tryz.prog 103 = some 1 := by kernel_rfl
theorem ag103 : tag Tryz.prog 103 = some none := by kernel_rfl
theorem zc103 : tzc Tryz.prog 103 = some [.nilFunc] := by kernel_rfl
theorem sr103 : tsrc Tryz.prog 103 = true := by kernel_rfl
theorem sz104 : tsz Tryz.prog 104 = some 1 := by kernel_rfl
theorem ag104 : tag Tryz.prog 104 = some none := by kernel_rfl
theorem zc104 : tzc Tryz.prog 104 = some [.nilFunc] := by kernel_rfl
theorem sr104 : tsrc Tryz.prog 104 = true := by kernel_rfl
theorem sz105 : tsz Tryz.prog 105 = some 1 := by kernel_rfl
theorem ag105 : tag Tryz.prog 105 = some none := by kernel_rfl
theorem zc105 : tzc Tryz.prog 105 = some [.nilFunc] := by kernel_rfl
theorem sr105 : tsrc Tryz.prog 105 = true := by kernel_rfl
theorem sz106 : tsz Tryz.prog 106 = some 1 := by kernel_rfl
theorem ag106 : tag Tryz.prog 106 = some none := by kernel_rfl
theorem zc106 : tzc Tryz.prog 106 = some [.nilFunc] := by kernel_rfl
theorem sr106 : tsrc Tryz.prog 106 = true := by kernel_rfl
theorem sz107 : tsz Tryz.prog 107 = some 1 := by kernel_rfl
theorem ag107 : tag Tryz.prog 107 = some none := by kernel_rfl
theorem zc107 : tzc Tryz.prog 107 = some [.nilFunc] := by kernel_rfl
theorem sr107 : tsrc Tryz.prog 107 = true := by kernel_rfl
theorem sz108 : tsz Tryz.prog 108 = some 1 := by kernel_rfl
theorem ag108 : tag Tryz.prog 108 = some (some 1) := by kernel_rfl
theorem zc108 : tzc Tryz.prog 108 = some [(.int .i64 0)] := by kernel_rfl
theorem sr108 : tsrc Tryz.prog 108 = true := by kernel_rfl
theorem fd108_0 : tfd Tryz.prog 108 0 = some (0, 35) := by kernel_rfl
theorem fo108_0 : tfo Tryz.prog 108 0 = some 0 := by kernel_rfl
theorem pl108 : tpl Tryz.prog 108 = some [(0, 1)] := by kernel_rfl
theorem bd108 (ps : List (Nat × AV)) (K : AV → Prop) : aBuild Tryz.prog 108 ps K = aBld (tpl Tryz.prog 108) (tzc Tryz.prog 108) ps K := aBuild_eq (by rw [pl108]; rfl) ps K
theorem sz109 : tsz Tryz.prog 109 = some 1 := by kernel_rfl
theorem ag109 : tag Tryz.prog 109 = some (some 1) := by kernel_rfl
theorem zc109 : tzc Tryz.prog 109 = some [(.int .i64 0)] := by kernel_rfl
theorem sr109 : tsrc Tryz.prog 109 = true := by kernel_rfl
theorem fd109_0 : tfd Tryz.prog 109 0 = some (0, 35) := by kernel_rfl
theorem fo109_0 : tfo Tryz.prog 109 0 = some 0 := by kernel_rfl
theorem pl109 : tpl Tryz.prog 109 = some [(0, 1)] := by kernel_rfl
theorem bd109 (ps : List (Nat × AV)) (K : AV → Prop) : aBuild Tryz.prog 109 ps K = aBld (tpl Tryz.prog 109) (tzc Tryz.prog 109) ps K := aBuild_eq (by rw [pl109]; rfl) ps K
theorem es109 : teqS Tryz.prog 109 = some [(0, .int)] := by kernel_rfl
theorem ni109 : tni Tryz.prog 109 = true := by kernel_rfl
theorem ta109 : tas Tryz.prog 109 = some (.agg [(.int .i64 0)]) := by kernel_rfl
theorem sz111 : tsz Tryz.prog 111 = some 1 := by kernel_rfl
theorem ag111 : tag Tryz.prog 111 = some none := by kernel_rfl
theorem zc111 : tzc Tryz.prog 111 = some [.nilFunc] := by kernel_rfl
theorem sr111 : tsrc Tryz.prog 111 = true := by kernel_rfl
theorem sz112 : tsz Tryz.prog 112 = some 1 := by kernel_rfl
theorem ag112 : tag Tryz.prog 112 = some none := by kernel_rfl
theorem zc112 : tzc Tryz.prog 112 = some [.nilFunc] := by kernel_rfl
theorem sr112 : tsrc Tryz.prog 112 = true := by kernel_rfl
theorem sz113 : tsz Tryz.prog 113 = some 1 := by kernel_rfl
theorem ag113 : tag Tryz.prog 113 = some none := by kernel_rfl
theorem zc113 : tzc Tryz.prog 113 = some [.nilFunc] := by kernel_rfl
theorem sr113 : tsrc Tryz.prog 113 = true := by kernel_rfl
theorem sz114 : tsz Tryz.prog 114 = some 1 := by kernel_rfl
theorem ag114 : tag Tryz.prog 114 = some none := by kernel_rfl
theorem zc114 : tzc Tryz.prog 114 = some [.nilFunc] := by kernel_rfl
theorem sr114 : tsrc Tryz.prog 114 = true := by kernel_rfl
theorem sz115 : tsz Tryz.prog 115 = some 1 := by kernel_rfl
theorem ag115 : tag Tryz.prog 115 = some none := by kernel_rfl
theorem zc115 : tzc Tryz.prog 115 = some [.nilFunc] := by kernel_rfl
theorem sr115 : tsrc Tryz.prog 115 = true := by kernel_rfl
theorem sz116 : tsz Tryz.prog 116 = some 1 := by kernel_rfl
theorem ag116 : tag Tryz.prog 116 = some none := by kernel_rfl
theorem zc116 : tzc Tryz.prog 116 = some [.nilFunc] := by kernel_rfl
theorem sr116 : tsrc Tryz.prog 116 = true := by kernel_rfl
theorem sz117 : tsz Tryz.prog 117 = some 5 := by kernel_rfl
theorem ag117 : tag Tryz.prog 117 = some (some 5) := by kernel_rfl
theorem zc117 : tzc Tryz.prog 117 = some [.nilFunc, .nilFunc, .nilFunc, .nilFunc, .nilFunc] := by kernel_rfl
theorem sr117 : tsrc Tryz.prog 117 = true := by kernel_rfl
theorem es117 : teqS Tryz.prog 117 = none := by kernel_rfl
theorem el117 : tel Tryz.prog 117 = some (some 5, 1) := by kernel_rfl
theorem ln117 : tlen Tryz.prog 117 = some (.arr 5) := by kernel_rfl
theorem sz118 : tsz Tryz.prog 118 = some 1 := by kernel_rfl
theorem ag118 : tag Tryz.prog 118 = some none := by kernel_rfl
theorem zc118 : tzc Tryz.prog 118 = some [.nilFunc] := by kernel_rfl
theorem sr118 : tsrc Tryz.prog 118 = true := by kernel_rfl
theorem sz119 : tsz Tryz.prog 119 = some 1 := by kernel_rfl
theorem ag119 : tag Tryz.prog 119 = some none := by kernel_rfl
theorem zc119 : tzc Tryz.prog 119 = some [.nilFunc] := by kernel_rfl
theorem sr119 : tsrc Tryz.prog 119 = true := by kernel_rfl
theorem sz121 : tsz Tryz.prog 121 = some 1 := by kernel_rfl
theorem ag121 : tag Tryz.prog 121 = some none := by kernel_rfl
theorem zc121 : tzc Tryz.prog 121 = some [.nilFunc] := by kernel_rfl
theorem sr121 : tsrc Tryz.prog 121 = true := by kernel_rfl
theorem sz122 : tsz Tryz.prog 122 = some 1 := by kernel_rfl
theorem ag122 : tag Tryz.prog 122 = some none := by kernel_rfl
theorem zc122 : tzc Tryz.prog 122 = some [.nilFunc] := by kernel_rfl
theorem sr122 : tsrc Tryz.prog 122 = true := by kernel_rfl
theorem sz123 : tsz Tryz.prog 123 = some 1 := by kernel_rfl
theorem ag123 : tag Tryz.prog 123 = some none := by kernel_rfl
theorem zc123 : tzc Tryz.prog 123 = some [.nilFunc] := by kernel_rfl
theorem sr123 : tsrc Tryz.prog 123 = true := by kernel_rfl
theorem sz124 : tsz Tryz.prog 124 = some 1 := by kernel_rfl
theorem ag124 : tag Tryz.prog 124 = some none := by kernel_rfl
theorem zc124 : tzc Tryz.prog 124 = some [(.int .u64 0)] := by kernel_rfl
theorem sr124 : tsrc Tryz.prog 124 = false := by kernel_rfl
theorem sz125 : tsz Tryz.prog 125 = some 1 := by kernel_rfl
theorem ag125 : tag Tryz.prog 125 = some none := by kernel_rfl
theorem zc125 : tzc Tryz.prog 125 = some [.nilFunc] := by kernel_rfl
theorem sr125 : tsrc Tryz.prog 125 = true := by kernel_rfl
theorem sz126 : tsz Tryz.prog 126 = some 1 := by kernel_rfl
theorem ag126 : tag Tryz.prog 126 = some none := by kernel_rfl
theorem zc126 : tzc Tryz.prog 126 = some [.nilFunc] := by kernel_rfl
theorem sr126 : tsrc Tryz.prog 126 = true := by kernel_rfl
theorem sz127 : tsz Tryz.prog 127 = some 1 := by kernel_rfl
theorem ag127 : tag Tryz.prog 127 = some none := by kernel_rfl
theorem zc127 : tzc Tryz.prog 127 = some [.nilFunc] := by kernel_rfl
theorem sr127 : tsrc Tryz.prog 127 = true := by kernel_rfl
theorem sz128 : tsz Tryz.prog 128 = some 1 := by kernel_rfl
theorem ag128 : tag Tryz.prog 128 = some none := by kernel_rfl
theorem zc128 : tzc Tryz.prog 128 = some [.nilFunc] := by kernel_rfl
theorem sr128 : tsrc Tryz.prog 128 = true := by kernel_rfl
theorem sz129 : tsz Tryz.prog 129 = some 1 := by kernel_rfl
theorem ag129 : tag Tryz.prog 129 = some none := by kernel_rfl
theorem zc129 : tzc Tryz.prog 129 = some [.nilFunc] := by kernel_rfl
theorem sr129 : tsrc Tryz.prog 129 = true := by kernel_rfl
theorem sz130 : tsz Tryz.prog 130 = some 1 := by kernel_rfl
theorem ag130 : tag Tryz.prog 130 = some none := by kernel_rfl
theorem zc130 : tzc Tryz.prog 130 = some [.nilFunc] := by kernel_rfl
theorem sr130 : tsrc Tryz.prog 130 = true := by kernel_rfl
theorem sz131 : tsz Tryz.prog 131 = some 1 := by kernel_rfl
theorem ag131 : tag Tryz.prog 131 = some none := by kernel_rfl
theorem zc131 : tzc Tryz.prog 131 = some [.nilFunc] := by kernel_rfl
theorem sr131 : tsrc Tryz.prog 131 = true := by kernel_rfl
theorem sz132 : tsz Tryz.prog 132 = some 4 := by kernel_rfl
theorem ag132 : tag Tryz.prog 132 = some (some 4) := by kernel_rfl
theorem zc132 : tzc Tryz.prog 132 = some [(.ptr none), (.ptr none), (.ptr none), (.str ⟨#[]⟩)] := by kernel_rfl
theorem sr132 : tsrc Tryz.prog 132 = true := by kernel_rfl
theorem fd132_0 : tfd Tryz.prog 132 0 = some (0, 17) := by kernel_rfl
theorem fo132_0 : tfo Tryz.prog 132 0 = some 0 := by kernel_rfl
theorem fd132_1 : tfd Tryz.prog 132 1 = some (1, 17) := by kernel_rfl
theorem fo132_1 : tfo Tryz.prog 132 1 = some 1 := by kernel_rfl
theorem fd132_2 : tfd Tryz.prog 132 2 = some (2, 17) := by kernel_rfl
theorem fo132_2 : tfo Tryz.prog 132 2 = some 2 := by kernel_rfl
theorem fd132_3 : tfd Tryz.prog 132 3 = some (3, 9) := by kernel_rfl
theorem fo132_3 : tfo Tryz.prog 132 3 = some 3 := by kernel_rfl
theorem pl132 : tpl Tryz.prog 132 = some [(0, 1), (1, 1), (2, 1), (3, 1)] := by kernel_rfl
theorem bd132 (ps : List (Nat × AV)) (K : AV → Prop) : aBuild Tryz.prog 132 ps K = aBld (tpl Tryz.prog 132) (tzc Tryz.prog 132) ps K := aBuild_eq (by rw [pl132]; rfl) ps K
theorem sz133 : tsz Tryz.prog 133 = some 4 := by kernel_rfl
theorem ag133 : tag Tryz.prog 133 = some (some 4) := by kernel_rfl
theorem zc133 : tzc Tryz.prog 133 = some [(.ptr none), (.ptr none), (.ptr none), (.str ⟨#[]⟩)] := by kernel_rfl
theorem sr133 : tsrc Tryz.prog 133 = true := by kernel_rfl
theorem fd133_0 : tfd Tryz.prog 133 0 = some (0, 17) := by kernel_rfl
theorem fo133_0 : tfo Tryz.prog 133 0 = some 0 := by kernel_rfl
theorem fd133_1 : tfd Tryz.prog 133 1 = some (1, 17) := by kernel_rfl
theorem fo133_1 : tfo Tryz.prog 133 1 = some 1 := by kernel_rfl
theorem fd133_2 : tfd Tryz.prog 133 2 = some (2, 17) := by kernel_rfl
theorem fo133_2 : tfo Tryz.prog 133 2 = some 2 := by kernel_rfl
theorem fd133_3 : tfd Tryz.prog 133 3 = some (3, 9) := by kernel_rfl
theorem fo133_3 : tfo Tryz.prog 133 3 = some 3 := by kernel_rfl
theorem pl133 : tpl Tryz.prog 133 = some [(0, 1), (1, 1), (2, 1), (3, 1)] := by kernel_rfl
theorem bd133 (ps : List (Nat × AV)) (K : AV → Prop) : aBuild Tryz.prog 133 ps K = aBld (tpl Tryz.prog 133) (tzc Tryz.prog 133) ps K := aBuild_eq (by rw [pl133]; rfl) ps K
theorem ni133 : tni Tryz.prog 133 = true := by kernel_rfl
theorem ta133 : tas Tryz.prog 133 = some (.agg [(.ptr none), (.ptr none), (.ptr none), (.str ⟨#[]⟩)]) := by kernel_rfl
theorem sz134 : tsz Tryz.prog 134 = some 0 := by kernel_rfl
theorem ag134 : tag Tryz.prog 134 = some (some 0) := by kernel_rfl
theorem zc134 : tzc Tryz.prog 134 = some [] := by kernel_rfl
theorem sr134 : tsrc Tryz.prog 134 = true := by kernel_rfl
theorem es134 : teqS Tryz.prog 134 = none := by kernel_rfl
theorem el134 : tel Tryz.prog 134 = some (some 0, 1) := by kernel_rfl
theorem ln134 : tlen Tryz.prog 134 = some (.arr 0) := by kernel_rfl
theorem sz135 : tsz Tryz.prog 135 = some 0 := by kernel_rfl
theorem ag135 : tag Tryz.prog 135 = some (some 0) := by kernel_rfl
theorem zc135 : tzc Tryz.prog 135 = some [] := by kernel_rfl
theorem sr135 : tsrc Tryz.prog 135 = true := by kernel_rfl
theorem fd135_0 : tfd Tryz.prog 135 0 = some (0, 134) := by kernel_rfl
theorem pl135 : tpl Tryz.prog 135 = some [(0, 0)] := by kernel_rfl
theorem bd135 (ps : List (Nat × AV)) (K : AV → Prop) : aBuild Tryz.prog 135 ps K = aBld (tpl Tryz.prog 135) (tzc Tryz.prog 135) ps K := aBuild_eq (by rw [pl135]; rfl) ps K
theorem sz136 : tsz Tryz.prog 136 = some 0 := by kernel_rfl
theorem ag136 : tag Tryz.prog 136 = some (some 0) := by kernel_rfl
theorem zc136 : tzc Tryz.prog 136 = some [] := by kernel_rfl
theorem sr136 : tsrc Tryz.prog 136 = true := by kernel_rfl
theorem fd136_0 : tfd Tryz.prog 136 0 = some (0, 134) := by kernel_rfl
theorem pl136 : tpl Tryz.prog 136 = some [(0, 0)] := by kernel_rfl
theorem bd136 (ps : List (Nat × AV)) (K : AV → Prop) : aBuild Tryz.prog 136 ps K = aBld (tpl Tryz.prog 136) (tzc Tryz.prog 136) ps K := aBuild_eq (by rw [pl136]; rfl) ps K
theorem ni136 : tni Tryz.prog 136 = true := by kernel_rfl
theorem ta136 : tas Tryz.prog 136 = some (.agg []) := by kernel_rfl
theorem sz137 : tsz Tryz.prog 137 = some 1 := by kernel_rfl
theorem ag137 : tag Tryz.prog 137 = some none := by kernel_rfl
theorem zc137 : tzc Tryz.prog 137 = some [.nilFunc] := by kernel_rfl
theorem sr137 : tsrc Tryz.prog 137 = true := by kernel_rfl
theorem sz138 : tsz Tryz.prog 138 = some 1 := by kernel_rfl
theorem ag138 : tag Tryz.prog 138 = some none := by kernel_rfl
theorem zc138 : tzc Tryz.prog 138 = some [(.int .u32 0)] := by kernel_rfl
theorem sr138 : tsrc Tryz.prog 138 = false := by kernel_rfl
theorem sz139 : tsz Tryz.prog 139 = some 1 := by kernel_rfl
theorem ag139 : tag Tryz.prog 139 = some none := by kernel_rfl
theorem zc139 : tzc Tryz.prog 139 = some [(.int .u8 0)] := by kernel_rfl
theorem sr139 : tsrc Tryz.prog 139 = false := by kernel_rfl
theorem ni139 : tni Tryz.prog 139 = true := by kernel_rfl
theorem ta139 : tas Tryz.prog 139 = some (.int .u8 0) := by kernel_rfl
theorem sz140 : tsz Tryz.prog 140 = some 1 := by kernel_rfl
theorem ag140 : tag Tryz.prog 140 = some none := by kernel_rfl
theorem zc140 : tzc Tryz.prog 140 = some [(.int .u8 0)] := by kernel_rfl
theorem sr140 : tsrc Tryz.prog 140 = false := by kernel_rfl
theorem ni140 : tni Tryz.prog 140 = true := by kernel_rfl
theorem ta140 : tas Tryz.prog 140 = some (.int .u8 0) := by kernel_rfl
theorem sz141 : tsz Tryz.prog 141 = some 1 := by kernel_rfl
theorem ag141 : tag Tryz.prog 141 = some none := by kernel_rfl
theorem zc141 : tzc Tryz.prog 141 = some [.nilFunc] := by kernel_rfl
theorem sr141 : tsrc Tryz.prog 141 = true := by kernel_rfl
theorem sz142 : tsz Tryz.prog 142 = some 1 := by kernel_rfl
theorem ag142 : tag Tryz.prog 142 = some none := by kernel_rfl
theorem zc142 : tzc Tryz.prog 142 = some [(.ptr none)] := by kernel_rfl
theorem sr142 : tsrc Tryz.prog 142 = true := by kernel_rfl
theorem ni142 : tni Tryz.prog 142 = true := by kernel_rfl
theorem ta142 : tas Tryz.prog 142 = some (.ptr none) := by kernel_rfl
theorem sz143 : tsz Tryz.prog 143 = some 1 := by kernel_rfl
theorem ag143 : tag Tryz.prog 143 = some none := by kernel_rfl
theorem zc143 : tzc Tryz.prog 143 = some [(.int .i32 0)] := by kernel_rfl
theorem sr143 : tsrc Tryz.prog 143 = false := by kernel_rfl
theorem ni143 : tni Tryz.prog 143 = true := by kernel_rfl
theorem ta143 : tas Tryz.prog 143 = some (.int .i32 0) := by kernel_rfl
theorem sz144 : tsz Tryz.prog 144 = some 1 := by kernel_rfl
theorem ag144 : tag Tryz.prog 144 = some none := by kernel_rfl
theorem zc144 : tzc Tryz.prog 144 = some [(.int .i32 0)] := by kernel_rfl
theorem sr144 : tsrc Tryz.prog 144 = false := by kernel_rfl
theorem ni144 : tni Tryz.prog 144 = true := by kernel_rfl
theorem ta144 : tas Tryz.prog 144 = some (.int .i32 0) := by kernel_rfl
theorem sz145 : tsz Tryz.prog 145 = some 11 := by kernel_rfl
theorem ag145 : tag Tryz.prog 145 = some (some 11) := by kernel_rfl
theorem zc145 : tzc Tryz.prog 145 = some [(.int .u64 0), (.int .u64 0), (.int .u32 0), (.int .u8 0), (.int .u8 0), (.int .u8 0), (.int .u8 0), .nilFunc, (.ptr none), (.int .i32 0), (.int .i32 0)] := by kernel_rfl
theorem sr145 : tsrc Tryz.prog 145 = true := by kernel_rfl
theorem fd145_0 : tfd Tryz.prog 145 0 = some (0, 12) := by kernel_rfl
theorem fo145_0 : tfo Tryz.prog 145 0 = some 0 := by kernel_rfl
theorem fd145_1 : tfd Tryz.prog 145 1 = some (1, 12) := by kernel_rfl
theorem fo145_1 : tfo Tryz.prog 145 1 = some 1 := by kernel_rfl
theorem fd145_2 : tfd Tryz.prog 145 2 = some (2, 138) := by kernel_rfl
theorem fo145_2 : tfo Tryz.prog 145 2 = some 2 := by kernel_rfl
theorem fd145_3 : tfd Tryz.prog 145 3 = some (3, 139) := by kernel_rfl
theorem fo145_3 : tfo Tryz.prog 145 3 = some 3 := by kernel_rfl
theorem fd145_4 : tfd Tryz.prog 145 4 = some (4, 5) := by kernel_rfl
theorem fo145_4 : tfo Tryz.prog 145 4 = some 4 := by kernel_rfl
theorem fd145_5 : tfd Tryz.prog 145 5 = some (5, 5) := by kernel_rfl
theorem fo145_5 : tfo Tryz.prog 145 5 = some 5 := by kernel_rfl
theorem fd145_6 : tfd Tryz.prog 145 6 = some (6, 140) := by kernel_rfl
theorem fo145_6 : tfo Tryz.prog 145 6 = some 6 := by kernel_rfl
theorem fd145_7 : tfd Tryz.prog 145 7 = some (7, 141) := by kernel_rfl
theorem fo145_7 : tfo Tryz.prog 145 7 = some 7 := by kernel_rfl
theorem fd145_8 : tfd Tryz.prog 145 8 = some (8, 142) := by kernel_rfl
theorem fo145_8 : tfo Tryz.prog 145 8 = some 8 := by kernel_rfl
theorem fd145_9 : tfd Tryz.prog 145 9 = some (9, 143) := by kernel_rfl
theorem fo145_9 : tfo Tryz.prog 145 9 = some 9 := by kernel_rfl
theorem fd145_10 : tfd Tryz.prog 145 10 = some (10, 144) := by kernel_rfl
theorem fo145_10 : tfo Tryz.prog 145 10 = some 10 := by kernel_rfl
theorem pl145 : tpl Tryz.prog 145 = some [(0, 1), (1, 1), (2, 1), (3, 1), (4, 1), (5, 1), (6, 1), (7, 1), (8, 1), (9, 1), (10, 1)] := by kernel_rfl
theorem bd145 (ps : List (Nat × AV)) (K : AV → Prop) : aBuild Tryz.prog 145 ps K = aBld (tpl Tryz.prog 145) (tzc Tryz.prog 145) ps K := aBuild_eq (by rw [pl145]; rfl) ps K
theorem sz146 : tsz Tryz.prog 146 = some 11 := by kernel_rfl
theorem ag146 : tag Tryz.prog 146 = some (some 11) := by kernel_rfl
theorem zc146 : tzc Tryz.prog 146 = some [(.int .u64 0), (.int .u64 0), (.int .u32 0), (.int .u8 0), (.int .u8 0), (.int .u8 0), (.int .u8 0), .nilFunc, (.ptr none), (.int .i32 0), (.int .i32 0)] := by kernel_rfl
theorem sr146 : tsrc Tryz.prog 146 = true := by kernel_rfl
theorem fd146_0 : tfd Tryz.prog 146 0 = some (0, 12) := by kernel_rfl
theorem fo146_0 : tfo Tryz.prog 146 0 = some 0 := by kernel_rfl
theorem fd146_1 : tfd Tryz.prog 146 1 = some (1, 12) := by kernel_rfl
theorem fo146_1 : tfo Tryz.prog 146 1 = some 1 := by kernel_rfl
theorem fd146_2 : tfd Tryz.prog 146 2 = some (2, 138) := by kernel_rfl
theorem fo146_2 : tfo Tryz.prog 146 2 = some 2 := by kernel_rfl
theorem fd146_3 : tfd Tryz.prog 146 3 = some (3, 139) := by kernel_rfl
theorem fo146_3 : tfo Tryz.prog 146 3 = some 3 := by kernel_rfl
theorem fd146_4 : tfd Tryz.prog 146 4 = some (4, 5) := by kernel_rfl
theorem fo146_4 : tfo Tryz.prog 146 4 = some 4 := by kernel_rfl
theorem fd146_5 : tfd Tryz.prog 146 5 = some (5, 5) := by kernel_rfl
theorem fo146_5 : tfo Tryz.prog 146 5 = some 5 := by kernel_rfl
theorem fd146_6 : tfd Tryz.prog 146 6 = some (6, 140) := by kernel_rfl
theorem fo146_6 : tfo Tryz.prog 146 6 = some 6 := by kernel_rfl
theorem fd146_7 : tfd Tryz.prog 146 7 = some (7, 141) := by kernel_rfl
theorem fo146_7 : tfo Tryz.prog 146 7 = some 7 := by kernel_rfl
theorem fd146_8 : tfd Tryz.prog 146 8 = some (8, 142) := by kernel_rfl
theorem fo146_8 : tfo Tryz.prog 146 8 = some 8 := by kernel_rfl
theorem fd146_9 : tfd Tryz.prog 146 9 = some (9, 143) := by kernel_rfl
theorem fo146_9 : tfo Tryz.prog 146 9 = some 9 := by kernel_rfl
theorem fd146_10 : tfd Tryz.prog 146 10 = some (10, 144) := by kernel_rfl
theorem fo146_10 : tfo Tryz.prog 146 10 = some 10 := by kernel_rfl
theorem pl146 : tpl Tryz.prog 146 = some [(0, 1), (1, 1), (2, 1), (3, 1), (4, 1), (5, 1), (6, 1), (7, 1), (8, 1), (9, 1), (10, 1)] := by kernel_rfl
theorem bd146 (ps : List (Nat × AV)) (K : AV → Prop) : aBuild Tryz.prog 146 ps K = aBld (tpl Tryz.prog 146) (tzc Tryz.prog 146) ps K := aBuild_eq (by rw [pl146]; rfl) ps K
theorem ni146 : tni Tryz.prog 146 = true := by kernel_rfl
theorem ta146 : tas Tryz.prog 146 = some (.agg [(.int .u64 0), (.int .u64 0), (.int .u32 0), (.int .u8 0), (.int .u8 0), (.int .u8 0), (.int .u8 0), .nilFunc, (.ptr none), (.int .i32 0), (.int .i32 0)]) := by kernel_rfl
theorem sz147 : tsz Tryz.prog 147 = some 1 := by kernel_rfl
theorem ag147 : tag Tryz.prog 147 = some none := by kernel_rfl
theorem zc147 : tzc Tryz.prog 147 = some [(.ptr none)] := by kernel_rfl
theorem sr147 : tsrc Tryz.prog 147 = true := by kernel_rfl
theorem mu61 : tmkey Tryz.prog 61 = some true := by kernel_rfl
theorem mu71 : tmkey Tryz.prog 71 = some true := by kernel_rfl
theorem mq61 : mks Tryz.prog 61 = none := by kernel_rfl
theorem mq71 : mks Tryz.prog 71 = none := by kernel_rfl
theorem ar85 : tarr Tryz.prog 85 = some (5, 1) := by kernel_rfl
theorem ia85 (cs : List AV) (k : IntKind) (n : Int) (K : AV → Prop) : aIndex Tryz.prog 85 (.agg cs) (.int k n) K = (0 ≤ n ∧ n < 5 ∧ aLd Tryz.prog 84 (cs.drop (n.toNat * 1)) K) := aIndex_arr (by kernel_rfl) (by kernel_rfl) cs k n K
theorem ba85 (ps : List (Nat × AV)) (K : AV → Prop) : aBuild Tryz.prog 85 ps K = aBldA (tarr Tryz.prog 85) (tzc Tryz.prog 85) ps K := aBuildA_eq (by rw [ar85]; rfl) ps K
theorem ar117 : tarr Tryz.prog 117 = some (5, 1) := by kernel_rfl
theorem ia117 (cs : List AV) (k : IntKind) (n : Int) (K : AV → Prop) : aIndex Tryz.prog 117 (.agg cs) (.int k n) K = (0 ≤ n ∧ n < 5 ∧ aLd Tryz.prog 69 (cs.drop (n.toNat * 1)) K) := aIndex_arr (by kernel_rfl) (by kernel_rfl) cs k n K
theorem ba117 (ps : List (Nat × AV)) (K : AV → Prop) : aBuild Tryz.prog 117 ps K = aBldA (tarr Tryz.prog 117) (tzc Tryz.prog 117) ps K := aBuildA_eq (by rw [ar117]; rfl) ps K
theorem ar134 : tarr Tryz.prog 134 = some (0, 1) := by kernel_rfl
theorem ia134 (cs : List AV) (k : IntKind) (n : Int) (K : AV → Prop) : aIndex Tryz.prog 134 (.agg cs) (.int k n) K = (0 ≤ n ∧ n < 0 ∧ aLd Tryz.prog 16 (cs.drop (n.toNat * 1)) K) := aIndex_arr (by kernel_rfl) (by kernel_rfl) cs k n K
theorem ba134 (ps : List (Nat × AV)) (K : AV → Prop) : aBuild Tryz.prog 134 ps K = aBldA (tarr Tryz.prog 134) (tzc Tryz.prog 134) ps K := aBuildA_eq (by rw [ar134]; rfl) ps K
theorem cv2_2 : tcv Tryz.prog 2 2 = some (some .i64) := by kernel_rfl
theorem cv2_3 : tcv Tryz.prog 2 3 = some (some .i64) := by kernel_rfl
theorem cv2_5 : tcv Tryz.prog 2 5 = some (some .u8) := by kernel_rfl
theorem cv2_6 : tcv Tryz.prog 2 6 = some (some .u8) := by kernel_rfl
theorem cv2_12 : tcv Tryz.prog 2 12 = some (some .u64) := by kernel_rfl
theorem cv2_21 : tcv Tryz.prog 2 21 = some (some .i32) := by kernel_rfl
theorem cv2_35 : tcv Tryz.prog 2 35 = some (some .i64) := by kernel_rfl
theorem cv2_124 : tcv Tryz.prog 2 124 = some (some .u64) := by kernel_rfl
theorem cv2_138 : tcv Tryz.prog 2 138 = some (some .u32) := by kernel_rfl
theorem cv2_139 : tcv Tryz.prog 2 139 = some (some .u8) := by kernel_rfl
theorem cv2_140 : tcv Tryz.prog 2 140 = some (some .u8) := by kernel_rfl
theorem cv2_143 : tcv Tryz.prog 2 143 = some (some .i32) := by kernel_rfl
theorem cv2_144 : tcv Tryz.prog 2 144 = some (some .i32) := by kernel_rfl
theorem cv3_2 : tcv Tryz.prog 3 2 = some (some .i64) := by kernel_rfl
theorem cv3_3 : tcv Tryz.prog 3 3 = some (some .i64) := by kernel_rfl
theorem cv3_5 : tcv Tryz.prog 3 5 = some (some .u8) := by kernel_rfl
theorem cv3_6 : tcv Tryz.prog 3 6 = some (some .u8) := by kernel_rfl
theorem cv3_12 : tcv Tryz.prog 3 12 = some (some .u64) := by kernel_rfl
theorem cv3_21 : tcv Tryz.prog 3 21 = some (some .i32) := by kernel_rfl
theorem cv3_35 : tcv Tryz.prog 3 35 = some (some .i64) := by kernel_rfl
theorem cv3_124 : tcv Tryz.prog 3 124 = some (some .u64) := by kernel_rfl
theorem cv3_138 : tcv Tryz.prog 3 138 = some (some .u32) := by kernel_rfl
theorem cv3_139 : tcv Tryz.prog 3 139 = some (some .u8) := by kernel_rfl
theorem cv3_140 : tcv Tryz.prog 3 140 = some (some .u8) := by kernel_rfl
theorem cv3_143 : tcv Tryz.prog 3 143 = some (some .i32) := by kernel_rfl
theorem cv3_144 : tcv Tryz.prog 3 144 = some (some .i32) := by kernel_rfl
theorem cv5_2 : tcv Tryz.prog 5 2 = some (some .i64) := by kernel_rfl
theorem cv5_3 : tcv Tryz.prog 5 3 = some (some .i64) := by kernel_rfl
theorem cv5_5 : tcv Tryz.prog 5 5 = some (some .u8) := by kernel_rfl
theorem cv5_6 : tcv Tryz.prog 5 6 = some (some .u8) := by kernel_rfl
theorem cv5_12 : tcv Tryz.prog 5 12 = some (some .u64) := by kernel_rfl
theorem cv5_21 : tcv Tryz.prog 5 21 = some (some .i32) := by kernel_rfl
theorem cv5_35 : tcv Tryz.prog 5 35 = some (some .i64) := by kernel_rfl
theorem cv5_124 : tcv Tryz.prog 5 124 = some (some .u64) := by kernel_rfl
theorem cv5_138 : tcv Tryz.prog 5 138 = some (some .u32) := by kernel_rfl
theorem cv5_139 : tcv Tryz.prog 5 139 = some (some .u8) := by kernel_rfl
theorem cv5_140 : tcv Tryz.prog 5 140 = some (some .u8) := by kernel_rfl
theorem cv5_143 : tcv Tryz.prog 5 143 = some (some .i32) := by kernel_rfl
theorem cv5_144 : tcv Tryz.prog 5 144 = some (some .i32) := by kernel_rfl
theorem cv6_2 : tcv Tryz.prog 6 2 = some (some .i64) := by kernel_rfl
theorem cv6_3 : tcv Tryz.prog 6 3 = some (some .i64) := by kernel_rfl
theorem cv6_5 : tcv Tryz.prog 6 5 = some (some .u8) := by kernel_rfl
theorem cv6_6 : tcv Tryz.prog 6 6 = some (some .u8) := by kernel_rfl
theorem cv6_12 : tcv Tryz.prog 6 12 = some (some .u64) := by kernel_rfl
theorem cv6_21 : tcv Tryz.prog 6 21 = some (some .i32) := by kernel_rfl
theorem cv6_35 : tcv Tryz.prog 6 35 = some (some .i64) := by kernel_rfl
theorem cv6_124 : tcv Tryz.prog 6 124 = some (some .u64) := by kernel_rfl
theorem cv6_138 : tcv Tryz.prog 6 138 = some (some .u32) := by kernel_rfl
theorem cv6_139 : tcv Tryz.prog 6 139 = some (some .u8) := by kernel_rfl
theorem cv6_140 : tcv Tryz.prog 6 140 = some (some .u8) := by kernel_rfl
theorem cv6_143 : tcv Tryz.prog 6 143 = some (some .i32) := by kernel_rfl
theorem cv6_144 : tcv Tryz.prog 6 144 = some (some .i32) := by kernel_rfl
theorem cv9_9 : tcv Tryz.prog 9 9 = some none := by kernel_rfl
theorem cv9_10 : tcv Tryz.prog 9 10 = some none := by kernel_rfl
theorem cv9_11 : tcv Tryz.prog 9 11 = some none := by kernel_rfl
theorem cv10_9 : tcv Tryz.prog 10 9 = some none := by kernel_rfl
theorem cv10_10 : tcv Tryz.prog 10 10 = some none := by kernel_rfl
theorem cv10_11 : tcv Tryz.prog 10 11 = some none := by kernel_rfl
theorem cv11_9 : tcv Tryz.prog 11 9 = some none := by kernel_rfl
theorem cv11_10 : tcv Tryz.prog 11 10 = some none := by kernel_rfl
theorem cv11_11 : tcv Tryz.prog 11 11 = some none := by kernel_rfl
theorem cv12_2 : tcv Tryz.prog 12 2 = some (some .i64) := by kernel_rfl
theorem cv12_3 : tcv Tryz.prog 12 3 = some (some .i64) := by kernel_rfl
theorem cv12_5 : tcv Tryz.prog 12 5 = some (some .u8) := by kernel_rfl
theorem cv12_6 : tcv Tryz.prog 12 6 = some (some .u8) := by kernel_rfl
theorem cv12_12 : tcv Tryz.prog 12 12 = some (some .u64) := by kernel_rfl
theorem cv12_21 : tcv Tryz.prog 12 21 = some (some .i32) := by kernel_rfl
theorem cv12_35 : tcv Tryz.prog 12 35 = some (some .i64) := by kernel_rfl
theorem cv12_124 : tcv Tryz.prog 12 124 = some (some .u64) := by kernel_rfl
theorem cv12_138 : tcv Tryz.prog 12 138 = some (some .u32) := by kernel_rfl
theorem cv12_139 : tcv Tryz.prog 12 139 = some (some .u8) := by kernel_rfl
theorem cv12_140 : tcv Tryz.prog 12 140 = some (some .u8) := by kernel_rfl
theorem cv12_143 : tcv Tryz.prog 12 143 = some (some .i32) := by kernel_rfl
theorem cv12_144 : tcv Tryz.prog 12 144 = some (some .i32) := by kernel_rfl
theorem cv21_2 : tcv Tryz.prog 21 2 = some (some .i64) := by kernel_rfl
theorem cv21_3 : tcv Tryz.prog 21 3 = some (some .i64) := by kernel_rfl
theorem cv21_5 : tcv Tryz.prog 21 5 = some (some .u8) := by kernel_rfl
theorem cv21_6 : tcv Tryz.prog 21 6 = some (some .u8) := by kernel_rfl
theorem cv21_12 : tcv Tryz.prog 21 12 = some (some .u64) := by kernel_rfl
theorem cv21_21 : tcv Tryz.prog 21 21 = some (some .i32) := by kernel_rfl
theorem cv21_35 : tcv Tryz.prog 21 35 = some (some .i64) := by kernel_rfl
theorem cv21_124 : tcv Tryz.prog 21 124 = some (some .u64) := by kernel_rfl
theorem cv21_138 : tcv Tryz.prog 21 138 = some (some .u32) := by kernel_rfl
theorem cv21_139 : tcv Tryz.prog 21 139 = some (some .u8) := by kernel_rfl
theorem cv21_140 : tcv Tryz.prog 21 140 = some (some .u8) := by kernel_rfl
theorem cv21_143 : tcv Tryz.prog 21 143 = some (some .i32) := by kernel_rfl
theorem cv21_144 : tcv Tryz.prog 21 144 = some (some .i32) := by kernel_rfl
theorem cv35_2 : tcv Tryz.prog 35 2 = some (some .i64) := by kernel_rfl
theorem cv35_3 : tcv Tryz.prog 35 3 = some (some .i64) := by kernel_rfl
theorem cv35_5 : tcv Tryz.prog 35 5 = some (some .u8) := by kernel_rfl
theorem cv35_6 : tcv Tryz.prog 35 6 = some (some .u8) := by kernel_rfl
theorem cv35_12 : tcv Tryz.prog 35 12 = some (some .u64) := by kernel_rfl
theorem cv35_21 : tcv Tryz.prog 35 21 = some (some .i32) := by kernel_rfl
theorem cv35_35 : tcv Tryz.prog 35 35 = some (some .i64) := by kernel_rfl
theorem cv35_124 : tcv Tryz.prog 35 124 = some (some .u64) := by kernel_rfl
theorem cv35_138 : tcv Tryz.prog 35 138 = some (some .u32) := by kernel_rfl
theorem cv35_139 : tcv Tryz.prog 35 139 = some (some .u8) := by kernel_rfl
theorem cv35_140 : tcv Tryz.prog 35 140 = some (some .u8) := by kernel_rfl
theorem cv35_143 : tcv Tryz.prog 35 143 = some (some .i32) := by kernel_rfl
theorem cv35_144 : tcv Tryz.prog 35 144 = some (some .i32) := by kernel_rfl
theorem cv124_2 : tcv Tryz.prog 124 2 = some (some .i64) := by kernel_rfl
theorem cv124_3 : tcv Tryz.prog 124 3 = some (some .i64) := by kernel_rfl
theorem cv124_5 : tcv Tryz.prog 124 5 = some (some .u8) := by kernel_rfl
theorem cv124_6 : tcv Tryz.prog 124 6 = some (some .u8) := by kernel_rfl
theorem cv124_12 : tcv Tryz.prog 124 12 = some (some .u64) := by kernel_rfl
theorem cv124_21 : tcv Tryz.prog 124 21 = some (some .i32) := by kernel_rfl
theorem cv124_35 : tcv Tryz.prog 124 35 = some (some .i64) := by kernel_rfl
theorem cv124_124 : tcv Tryz.prog 124 124 = some (some .u64) := by kernel_rfl
theorem cv124_138 : tcv Tryz.prog 124 138 = some (some .u32) := by kernel_rfl
theorem cv124_139 : tcv Tryz.prog 124 139 = some (some .u8) := by kernel_rfl
theorem cv124_140 : tcv Tryz.prog 124 140 = some (some .u8) := by kernel_rfl
theorem cv124_143 : tcv Tryz.prog 124 143 = some (some .i32) := by kernel_rfl
theorem cv124_144 : tcv Tryz.prog 124 144 = some (some .i32) := by kernel_rfl
theorem cv138_2 : tcv Tryz.prog 138 2 = some (some .i64) := by kernel_rfl
theorem cv138_3 : tcv Tryz.prog 138 3 = some (some .i64) := by kernel_rfl
theorem cv138_5 : tcv Tryz.prog 138 5 = some (some .u8) := by kernel_rfl
theorem cv138_6 : tcv Tryz.prog 138 6 = some (some .u8) := by kernel_rfl
theorem cv138_12 : tcv Tryz.prog 138 12 = some (some .u64) := by kernel_rfl
theorem cv138_21 : tcv Tryz.prog 138 21 = some (some .i32) := by kernel_rfl
theorem cv138_35 : tcv Tryz.prog 138 35 = some (some .i64) := by kernel_rfl
theorem cv138_124 : tcv Tryz.prog 138 124 = some (some .u64) := by kernel_rfl
theorem cv138_138 : tcv Tryz.prog 138 138 = some (some .u32) := by kernel_rfl
theorem cv138_139 : tcv Tryz.prog 138 139 = some (some .u8) := by kernel_rfl
theorem cv138_140 : tcv Tryz.prog 138 140 = some (some .u8) := by kernel_rfl
theorem cv138_143 : tcv Tryz.prog 138 143 = some (some .i32) := by kernel_rfl
theorem cv138_144 : tcv Tryz.prog 138 144 = some (some .i32) := by kernel_rfl
theorem cv139_2 : tcv Tryz.prog 139 2 = some (some .i64) := by kernel_rfl
theorem cv139_3 : tcv Tryz.prog 139 3 = some (some .i64) := by kernel_rfl
theorem cv139_5 : tcv Tryz.prog 139 5 = some (some .u8) := by kernel_rfl
theorem cv139_6 : tcv Tryz.prog 139 6 = some (some .u8) := by kernel_rfl
theorem cv139_12 : tcv Tryz.prog 139 12 = some (some .u64) := by kernel_rfl
theorem cv139_21 : tcv Tryz.prog 139 21 = some (some .i32) := by kernel_rfl
theorem cv139_35 : tcv Tryz.prog 139 35 = some (some .i64) := by kernel_rfl
theorem cv139_124 : tcv Tryz.prog 139 124 = some (some .u64) := by kernel_rfl
theorem cv139_138 : tcv Tryz.prog 139 138 = some (some .u32) := by kernel_rfl
theorem cv139_139 : tcv Tryz.prog 139 139 = some (some .u8) := by kernel_rfl
theorem cv139_140 : tcv Tryz.prog 139 140 = some (some .u8) := by kernel_rfl
theorem cv139_143 : tcv Tryz.prog 139 143 = some (some .i32) := by kernel_rfl
theorem cv139_144 : tcv Tryz.prog 139 144 = some (some .i32) := by kernel_rfl
theorem cv140_2 : tcv Tryz.prog 140 2 = some (some .i64) := by kernel_rfl
theorem cv140_3 : tcv Tryz.prog 140 3 = some (some .i64) := by kernel_rfl
theorem cv140_5 : tcv Tryz.prog 140 5 = some (some .u8) := by kernel_rfl
theorem cv140_6 : tcv Tryz.prog 140 6 = some (some .u8) := by kernel_rfl
theorem cv140_12 : tcv Tryz.prog 140 12 = some (some .u64) := by kernel_rfl
theorem cv140_21 : tcv Tryz.prog 140 21 = some (some .i32) := by kernel_rfl
theorem cv140_35 : tcv Tryz.prog 140 35 = some (some .i64) := by kernel_rfl
theorem cv140_124 : tcv Tryz.prog 140 124 = some (some .u64) := by kernel_rfl
theorem cv140_138 : tcv Tryz.prog 140 138 = some (some .u32) := by kernel_rfl
theorem cv140_139 : tcv Tryz.prog 140 139 = some (some .u8) := by kernel_rfl
theorem cv140_140 : tcv Tryz.prog 140 140 = some (some .u8) := by kernel_rfl
theorem cv140_143 : tcv Tryz.prog 140 143 = some (some .i32) := by kernel_rfl
theorem cv140_144 : tcv Tryz.prog 140 144 = some (some .i32) := by kernel_rfl
theorem cv143_2 : tcv Tryz.prog 143 2 = some (some .i64) := by kernel_rfl
theorem cv143_3 : tcv Tryz.prog 143 3 = some (some .i64) := by kernel_rfl
theorem cv143_5 : tcv Tryz.prog 143 5 = some (some .u8) := by kernel_rfl
theorem cv143_6 : tcv Tryz.prog 143 6 = some (some .u8) := by kernel_rfl
theorem cv143_12 : tcv Tryz.prog 143 12 = some (some .u64) := by kernel_rfl
theorem cv143_21 : tcv Tryz.prog 143 21 = some (some .i32) := by kernel_rfl
theorem cv143_35 : tcv Tryz.prog 143 35 = some (some .i64) := by kernel_rfl
theorem cv143_124 : tcv Tryz.prog 143 124 = some (some .u64) := by kernel_rfl
theorem cv143_138 : tcv Tryz.prog 143 138 = some (some .u32) := by kernel_rfl
theorem cv143_139 : tcv Tryz.prog 143 139 = some (some .u8) := by kernel_rfl
theorem cv143_140 : tcv Tryz.prog 143 140 = some (some .u8) := by kernel_rfl
theorem cv143_143 : tcv Tryz.prog 143 143 = some (some .i32) := by kernel_rfl
theorem cv143_144 : tcv Tryz.prog 143 144 = some (some .i32) := by kernel_rfl
theorem cv144_2 : tcv Tryz.prog 144 2 = some (some .i64) := by kernel_rfl
theorem cv144_3 : tcv Tryz.prog 144 3 = some (some .i64) := by kernel_rfl
theorem cv144_5 : tcv Tryz.prog 144 5 = some (some .u8) := by kernel_rfl
theorem cv144_6 : tcv Tryz.prog 144 6 = some (some .u8) := by kernel_rfl
theorem cv144_12 : tcv Tryz.prog 144 12 = some (some .u64) := by kernel_rfl
theorem cv144_21 : tcv Tryz.prog 144 21 = some (some .i32) := by kernel_rfl
theorem cv144_35 : tcv Tryz.prog 144 35 = some (some .i64) := by kernel_rfl
theorem cv144_124 : tcv Tryz.prog 144 124 = some (some .u64) := by kernel_rfl
theorem cv144_138 : tcv Tryz.prog 144 138 = some (some .u32) := by kernel_rfl
theorem cv144_139 : tcv Tryz.prog 144 139 = some (some .u8) := by kernel_rfl
theorem cv144_140 : tcv Tryz.prog 144 140 = some (some .u8) := by kernel_rfl
theorem cv144_143 : tcv Tryz.prog 144 143 = some (some .i32) := by kernel_rfl
theorem cv144_144 : tcv Tryz.prog 144 144 = some (some .i32) := by kernel_rfl
attribute [go_sem] sz1 ag1 zc1 sr1 sz2 ag2 zc2 sr2 sz3 ag3 zc3 sr3 sz4 ag4 zc4 sr4 bo4 sz5 ag5 zc5 sr5 sz6 ag6 zc6 sr6 ni6 ta6 sz7 ag7 zc7 sr7 fd7_0 fo7_0 fd7_1 fo7_1 fd7_2 fo7_2 fd7_3 fo7_3 pl7 bd7 sz8 ag8 zc8 sr8 fd8_0 fo8_0 fd8_1 fo8_1 fd8_2 fo8_2 fd8_3 fo8_3 pl8 bd8 ni8 ta8 sz9 ag9 zc9 sr9 cu9 ln9 sz10 ag10 zc10 sr10 ni10 ta10 cu10 ln10 sz11 ag11 zc11 sr11 ni11 ta11 cu11 ln11 sz12 ag12 zc12 sr12 sz13 ag13 zc13 sr13 fd13_0 fo13_0 fd13_1 fo13_1 pl13 bd13 sz14 ag14 zc14 sr14 fd14_0 fo14_0 fd14_1 fo14_1 pl14 bd14 ni14 ta14 sz15 ag15 zc15 sr15 ni15 ta15 sz16 ag16 zc16 sr16 ni16 ta16 sz17 ag17 zc17 sr17 ni17 ta17 sz18 ag18 zc18 sr18 fd18_0 fo18_0 pl18 bd18 sz19 ag19 zc19 sr19 fd19_0 fo19_0 pl19 bd19 ni19 ta19 sz20 ag20 zc20 sr20 if20 sz21 ag21 zc21 sr21 sz22 ag22 zc22 sr22 el22 cu22 ap22 bs22 ms22 mm22 mc22 mb22 ma22 ae22_22 ln22 sz23 ag23 zc23 sr23 el23 cu23 ap23 bs23 ms23 mm23 mc23 mb23 ma23 ae23_23 ln23 sz24 ag24 zc24 sr24 el24 cu24 ap24 bs24 ms24 mm24 mc24 mb24 ma24 ae24_24 ln24 sz25 ag25 zc25 sr25 fd25_0 fo25_0 fd25_1 fo25_1 fd25_2 fo25_2 fd25_3 fo25_3 fd25_4 fo25_4 pl25 bd25 sz26 ag26 zc26 sr26 fd26_0 fo26_0 fd26_1 fo26_1 fd26_2 fo26_2 fd26_3 fo26_3 fd26_4 fo26_4 pl26 bd26 ni26 ta26 sz27 ag27 zc27 sr27 fd27_0 fo27_0 fd27_1 fo27_1 fd27_2 fo27_2 fd27_3 fo27_3 fd27_4 fo27_4 fd27_5 fo27_5 pl27 bd27 sz28 ag28 zc28 sr28 fd28_0 fo28_0 fd28_1 fo28_1 fd28_2 fo28_2 fd28_3 fo28_3 fd28_4 fo28_4 fd28_5 fo28_5 pl28 bd28 ni28 ta28 sz29 ag29 zc29 sr29 el29 cu29 ap29 bs29 ms29 mm29 mc29 mb29 ma29 ae29_29 ln29 sz30 ag30 zc30 sr30 sz31 ag31 zc31 sr31 sz32 ag32 zc32 sr32 el32 cu32 ap32 bs32 ms32 mm32 mc32 mb32 ma32 ae32_32 ln32 sz33 ag33 zc33 sr33 fd33_0 fo33_0 fd33_1 fo33_1 fd33_2 fo33_2 pl33 bd33 sz34 ag34 zc34 sr34 fd34_0 fo34_0 fd34_1 fo34_1 fd34_2 fo34_2 pl34 bd34 ni34 ta34 sz35 ag35 zc35 sr35 ni35 ta35 sz37 ag37 zc37 sr37 sz38 ag38 zc38 sr38 sz39 ag39 zc39 sr39 sz40 ag40 zc40 sr40 sz41 ag41 zc41 sr41 sz42 ag42 zc42 sr42 sz44 ag44 zc44 sr44 sz45 ag45 zc45 sr45 el45 cu45 ap45 bs45 ms45 mm45 mc45 mb45 ma45 ae45_45 ln45 sz46 ag46 zc46 sr46 sz47 ag47 zc47 sr47 sz48 ag48 zc48 sr48 sz49 ag49 zc49 sr49 fd49_0 fo49_0 fd49_1 fo49_1 fd49_2 fo49_2 fd49_3 fo49_3 pl49 bd49 sz50 ag50 zc50 sr50 fd50_0 fo50_0 fd50_1 fo50_1 fd50_2 fo50_2 fd50_3 fo50_3 pl50 bd50 ni50 ta50 sz51 ag51 zc51 sr51 el51 cu51 ap51 bs51 ms51 mm51 mc51 mb51 ma51 ae51_51 ln51 sz52 ag52 zc52 sr52 sz53 ag53 zc53 sr53 sz54 ag54 zc54 sr54 sz55 ag55 zc55 sr55 sz56 ag56 zc56 sr56 fd56_0 fo56_0 fd56_1 fo56_1 pl56 bd56 sz57 ag57 zc57 sr57 fd57_0 fo57_0 fd57_1 fo57_1 pl57 bd57 ni57 ta57 sz58 ag58 zc58 sr58 sz59 ag59 zc59 sr59 sz60 ag60 zc60 sr60 sz61 ag61 zc61 sr61 ln61 mk61 sz62 ag62 zc62 sr62 sz63 ag63 zc63 sr63 sz64 ag64 zc64 sr64 sz65 ag65 zc65 sr65 sz66 ag66 zc66 sr66 sz67 ag67 zc67 sr67 fd67_0 fo67_0 fd67_1 fo67_1 fd67_2 fo67_2 pl67 bd67 sz68 ag68 zc68 sr68 fd68_0 fo68_0 fd68_1 fo68_1 fd68_2 fo68_2 pl68 bd68 ni68 ta68 sz69 ag69 zc69 sr69 sz70 ag70 zc70 sr70 sz71 ag71 zc71 sr71 ln71 mk71 sz72 ag72 zc72 sr72 sz73 ag73 zc73 sr73 sz74 ag74 zc74 sr74 fd74_0 fo74_0 fd74_1 fo74_1 pl74 bd74 sz75 ag75 zc75 sr75 fd75_0 fo75_0 fd75_1 fo75_1 pl75 bd75 es75 ni75 ta75 sz76 ag76 zc76 sr76 sz77 ag77 zc77 sr77 sz78 ag78 zc78 sr78 sz79 ag79 zc79 sr79 sz80 ag80 zc80 sr80 sz82 ag82 zc82 sr82 sz83 ag83 zc83 sr83 sz84 ag84 zc84 sr84 sz85 ag85 zc85 sr85 es85 el85 ln85 sz86 ag86 zc86 sr86 sz87 ag87 zc87 sr87 sz88 ag88 zc88 sr88 sz89 ag89 zc89 sr89 sz90 ag90 zc90 sr90 sz91 ag91 zc91 sr91 sz92 ag92 zc92 sr92 sz93 ag93 zc93 sr93 sz94 ag94 zc94 sr94 sz95 ag95 zc95 sr95 sz96 ag96 zc96 sr96 sz97 ag97 zc97 sr97 sz98 ag98 zc98 sr98 fd98_0 fo98_0 fd98_1 fo98_1 pl98 bd98 sz99 ag99 zc99 sr99 fd99_0 fo99_0 fd99_1 fo99_1 pl99 bd99 ni99 ta99 sz100 ag100 zc100 sr100 sz101 ag101 zc101 sr101 sz102 ag102 zc102 sr102 sz103 ag103 zc103 sr103 sz104 ag104 zc104 sr104 sz105 ag105 zc105 sr105 sz106 ag106 zc106 sr106 sz107 ag107 zc107 sr107 sz108 ag108 zc108 sr108 fd108_0 fo108_0 pl108 bd108 sz109 ag109 zc109 sr109 fd109_0 fo109_0 pl109 bd109 es109 ni109 ta109 sz111 ag111 zc111 sr111 sz112 ag112 zc112 sr112 sz113 ag113 zc113 sr113 sz114 ag114 zc114 sr114 sz115 ag115 zc115 sr115 sz116 ag116 zc116 sr116 sz117 ag117 zc117 sr117 es117 el117 ln117 sz118 ag118 zc118 sr118 sz119 ag119 zc119 sr119 sz121 ag121 zc121 sr121 sz122 ag122 zc122 sr122 sz123 ag123 zc123 sr123 sz124 ag124 zc124 sr124 sz125 ag125 zc125 sr125 sz126 ag126 zc126 sr126 sz127 ag127 zc127 sr127 sz128 ag128 zc128 sr128 sz129 ag129 zc129 sr129 sz130 ag130 zc130 sr130 sz131 ag131 zc131 sr131 sz132 ag132 zc132 sr132 fd132_0 fo132_0 fd132_1 fo132_1 fd132_2 fo132_2 fd132_3 fo132_3 pl132 bd132 sz133 ag133 zc133 sr133 fd133_0 fo133_0 fd133_1 fo133_1 fd133_2 fo133_2 fd133_3 fo133_3 pl133 bd133 ni133 ta133 sz134 ag134 zc134 sr134 es134 el134 ln134 sz135 ag135 zc135 sr135 fd135_0 pl135 bd135 sz136 ag136 zc136 sr136 fd136_0 pl136 bd136 ni136 ta136 sz137 ag137 zc137 sr137 sz138 ag138 zc138 sr138 sz139 ag139 zc139 sr139 ni139 ta139 sz140 ag140 zc140 sr140 ni140 ta140 sz141 ag141 zc141 sr141 sz142 ag142 zc142 sr142 ni142 ta142 sz143 ag143 zc143 sr143 ni143 ta143 sz144 ag144 zc144 sr144 ni144 ta144 sz145 ag145 zc145 sr145 fd145_0 fo145_0 fd145_1 fo145_1 fd145_2 fo145_2 fd145_3 fo145_3 fd145_4 fo145_4 fd145_5 fo145_5 fd145_6 fo145_6 fd145_7 fo145_7 fd145_8 fo145_8 fd145_9 fo145_9 fd145_10 fo145_10 pl145 bd145 sz146 ag146 zc146 sr146 fd146_0 fo146_0 fd146_1 fo146_1 fd146_2 fo146_2 fd146_3 fo146_3 fd146_4 fo146_4 fd146_5 fo146_5 fd146_6 fo146_6 fd146_7 fo146_7 fd146_8 fo146_8 fd146_9 fo146_9 fd146_10 fo146_10 pl146 bd146 ni146 ta146 sz147 ag147 zc147 sr147 mu61 mu71 mq61 mq71 ar85 ia85 ba85 ar117 ia117 ba117 ar134 ia134 ba134 cv2_2 cv2_3 cv2_5 cv2_6 cv2_12 cv2_21 cv2_35 cv2_124 cv2_138 cv2_139 cv2_140 cv2_143 cv2_144 cv3_2 cv3_3 cv3_5 cv3_6 cv3_12 cv3_21 cv3_35 cv3_124 cv3_138 cv3_139 cv3_140 cv3_143 cv3_144 cv5_2 cv5_3 cv5_5 cv5_6 cv5_12 cv5_21 cv5_35 cv5_124 cv5_138 cv5_139 cv5_140 cv5_143 cv5_144 cv6_2 cv6_3 cv6_5 cv6_6 cv6_12 cv6_21 cv6_35 cv6_124 cv6_138 cv6_139 cv6_140 cv6_143 cv6_144 cv9_9 cv9_10 cv9_11 cv10_9 cv10_10 cv10_11 cv11_9 cv11_10 cv11_11 cv12_2 cv12_3 cv12_5 cv12_6 cv12_12 cv12_21 cv12_35 cv12_124 cv12_138 cv12_139 cv12_140 cv12_143 cv12_144 cv21_2 cv21_3 cv21_5 cv21_6 cv21_12 cv21_21 cv21_35 cv21_124 cv21_138 cv21_139 cv21_140 cv21_143 cv21_144 cv35_2 cv35_3 cv35_5 cv35_6 cv35_12 cv35_21 cv35_35 cv35_124 cv35_138 cv35_139 cv35_140 cv35_143 cv35_144 cv124_2 cv124_3 cv124_5 cv124_6 cv124_12 cv124_21 cv124_35 cv124_124 cv124_138 cv124_139 cv124_140 cv124_143 cv124_144 cv138_2 cv138_3 cv138_5 cv138_6 cv138_12 cv138_21 cv138_35 cv138_124 cv138_138 cv138_139 cv138_140 cv138_143 cv138_144 cv139_2 cv139_3 cv139_5 cv139_6 cv139_12 cv139_21 cv139_35 cv139_124 cv139_138 cv139_139 cv139_140 cv139_143 cv139_144 cv140_2 cv140_3 cv140_5 cv140_6 cv140_12 cv140_21 cv140_35 cv140_124 cv140_138 cv140_139 cv140_140 cv140_143 cv140_144 cv143_2 cv143_3 cv143_5 cv143_6 cv143_12 cv143_21 cv143_35 cv143_124 cv143_138 cv143_139 cv143_140 cv143_143 cv143_144 cv144_2 cv144_3 cv144_5 cv144_6 cv144_12 cv144_21 cv144_35 cv144_124 cv144_138 cv144_139 cv144_140 cv144_143 cv144_144
end Go.Proofs.YtplllkjobpjaoaaGreatDoor.Ty
