/- Texts joined: Ty. No conditions. -/
import Derived.Test.YtmdiebdplakccaaDoorProg
import Derived.Test.YtmdiebdplakccaaDoorMrE
import Derived.KernelRfl
/- The closed facts on the types of this translation: cells, zero values, places of fields, elements. By program; no conditions. -/
namespace Go.Proofs.YtmdiebdplakccaaDoor.Ty
open Go Go.Proofs Go.Abs
theorem mixed : Tryd.prog.follows .mixedOrders = true := by kernel_rfl
theorem sz1 : tsz Tryd.prog 1 = some 1 := by kernel_rfl
theorem ag1 : tag Tryd.prog 1 = some none := by kernel_rfl
theorem zc1 : tzc Tryd.prog 1 = some [.nilFunc] := by kernel_rfl
theorem sr1 : tsrc Tryd.prog 1 = true := by kernel_rfl
theorem sz2 : tsz Tryd.prog 2 = some 1 := by kernel_rfl
theorem ag2 : tag Tryd.prog 2 = some none := by kernel_rfl
theorem zc2 : tzc Tryd.prog 2 = some [(.int .i64 0)] := by kernel_rfl
theorem sr2 : tsrc Tryd.prog 2 = false := by kernel_rfl
theorem sz3 : tsz Tryd.prog 3 = some 1 := by kernel_rfl
theorem ag3 : tag Tryd.prog 3 = some none := by kernel_rfl
theorem zc3 : tzc Tryd.prog 3 = some [(.int .i64 0)] := by kernel_rfl
theorem sr3 : tsrc Tryd.prog 3 = false := by kernel_rfl
theorem sz4 : tsz Tryd.prog 4 = some 1 := by kernel_rfl
theorem ag4 : tag Tryd.prog 4 = some none := by kernel_rfl
theorem zc4 : tzc Tryd.prog 4 = some [(.bool false)] := by kernel_rfl
theorem sr4 : tsrc Tryd.prog 4 = true := by kernel_rfl
theorem bo4 : tbool Tryd.prog 4 = true := by kernel_rfl
theorem sz5 : tsz Tryd.prog 5 = some 1 := by kernel_rfl
theorem ag5 : tag Tryd.prog 5 = some none := by kernel_rfl
theorem zc5 : tzc Tryd.prog 5 = some [(.int .u8 0)] := by kernel_rfl
theorem sr5 : tsrc Tryd.prog 5 = false := by kernel_rfl
theorem sz6 : tsz Tryd.prog 6 = some 1 := by kernel_rfl
theorem ag6 : tag Tryd.prog 6 = some none := by kernel_rfl
theorem zc6 : tzc Tryd.prog 6 = some [(.int .u8 0)] := by kernel_rfl
theorem sr6 : tsrc Tryd.prog 6 = false := by kernel_rfl
theorem ni6 : tni Tryd.prog 6 = true := by kernel_rfl
theorem ta6 : tas Tryd.prog 6 = some (.int .u8 0) := by kernel_rfl
theorem sz7 : tsz Tryd.prog 7 = some 4 := by kernel_rfl
theorem ag7 : tag Tryd.prog 7 = some (some 4) := by kernel_rfl
theorem zc7 : tzc Tryd.prog 7 = some [(.int .i64 0), (.int .i64 0), (.bool false), (.int .u8 0)] := by kernel_rfl
theorem sr7 : tsrc Tryd.prog 7 = true := by kernel_rfl
theorem fd7_0 : tfd Tryd.prog 7 0 = some (0, 2) := by kernel_rfl
theorem fo7_0 : tfo Tryd.prog 7 0 = some 0 := by kernel_rfl
theorem fd7_1 : tfd Tryd.prog 7 1 = some (1, 3) := by kernel_rfl
theorem fo7_1 : tfo Tryd.prog 7 1 = some 1 := by kernel_rfl
theorem fd7_2 : tfd Tryd.prog 7 2 = some (2, 4) := by kernel_rfl
theorem fo7_2 : tfo Tryd.prog 7 2 = some 2 := by kernel_rfl
theorem fd7_3 : tfd Tryd.prog 7 3 = some (3, 6) := by kernel_rfl
theorem fo7_3 : tfo Tryd.prog 7 3 = some 3 := by kernel_rfl
theorem pl7 : tpl Tryd.prog 7 = some [(0, 1), (1, 1), (2, 1), (3, 1)] := by kernel_rfl
theorem bd7 (ps : List (Nat × AV)) (K : AV → Prop) : aBuild Tryd.prog 7 ps K = aBld (tpl Tryd.prog 7) (tzc Tryd.prog 7) ps K := aBuild_eq (by rw [pl7]; rfl) ps K
theorem sz8 : tsz Tryd.prog 8 = some 4 := by kernel_rfl
theorem ag8 : tag Tryd.prog 8 = some (some 4) := by kernel_rfl
theorem zc8 : tzc Tryd.prog 8 = some [(.int .i64 0), (.int .i64 0), (.bool false), (.int .u8 0)] := by kernel_rfl
theorem sr8 : tsrc Tryd.prog 8 = true := by kernel_rfl
theorem fd8_0 : tfd Tryd.prog 8 0 = some (0, 2) := by kernel_rfl
theorem fo8_0 : tfo Tryd.prog 8 0 = some 0 := by kernel_rfl
theorem fd8_1 : tfd Tryd.prog 8 1 = some (1, 3) := by kernel_rfl
theorem fo8_1 : tfo Tryd.prog 8 1 = some 1 := by kernel_rfl
theorem fd8_2 : tfd Tryd.prog 8 2 = some (2, 4) := by kernel_rfl
theorem fo8_2 : tfo Tryd.prog 8 2 = some 2 := by kernel_rfl
theorem fd8_3 : tfd Tryd.prog 8 3 = some (3, 6) := by kernel_rfl
theorem fo8_3 : tfo Tryd.prog 8 3 = some 3 := by kernel_rfl
theorem pl8 : tpl Tryd.prog 8 = some [(0, 1), (1, 1), (2, 1), (3, 1)] := by kernel_rfl
theorem bd8 (ps : List (Nat × AV)) (K : AV → Prop) : aBuild Tryd.prog 8 ps K = aBld (tpl Tryd.prog 8) (tzc Tryd.prog 8) ps K := aBuild_eq (by rw [pl8]; rfl) ps K
theorem ni8 : tni Tryd.prog 8 = true := by kernel_rfl
theorem ta8 : tas Tryd.prog 8 = some (.agg [(.int .i64 0), (.int .i64 0), (.bool false), (.int .u8 0)]) := by kernel_rfl
theorem sz9 : tsz Tryd.prog 9 = some 1 := by kernel_rfl
theorem ag9 : tag Tryd.prog 9 = some none := by kernel_rfl
theorem zc9 : tzc Tryd.prog 9 = some [(.str ⟨#[]⟩)] := by kernel_rfl
theorem sr9 : tsrc Tryd.prog 9 = true := by kernel_rfl
theorem cu9 : tcut Tryd.prog 9 = some none := by kernel_rfl
theorem ln9 : tlen Tryd.prog 9 = some .str := by kernel_rfl
theorem sz10 : tsz Tryd.prog 10 = some 1 := by kernel_rfl
theorem ag10 : tag Tryd.prog 10 = some none := by kernel_rfl
theorem zc10 : tzc Tryd.prog 10 = some [(.str ⟨#[]⟩)] := by kernel_rfl
theorem sr10 : tsrc Tryd.prog 10 = true := by kernel_rfl
theorem ni10 : tni Tryd.prog 10 = true := by kernel_rfl
theorem ta10 : tas Tryd.prog 10 = some (.str ⟨#[]⟩) := by kernel_rfl
theorem cu10 : tcut Tryd.prog 10 = some none := by kernel_rfl
theorem ln10 : tlen Tryd.prog 10 = some .str := by kernel_rfl
theorem sz11 : tsz Tryd.prog 11 = some 1 := by kernel_rfl
theorem ag11 : tag Tryd.prog 11 = some none := by kernel_rfl
theorem zc11 : tzc Tryd.prog 11 = some [(.str ⟨#[]⟩)] := by kernel_rfl
theorem sr11 : tsrc Tryd.prog 11 = true := by kernel_rfl
theorem ni11 : tni Tryd.prog 11 = true := by kernel_rfl
theorem ta11 : tas Tryd.prog 11 = some (.str ⟨#[]⟩) := by kernel_rfl
theorem cu11 : tcut Tryd.prog 11 = some none := by kernel_rfl
theorem ln11 : tlen Tryd.prog 11 = some .str := by kernel_rfl
theorem sz12 : tsz Tryd.prog 12 = some 1 := by kernel_rfl
theorem ag12 : tag Tryd.prog 12 = some none := by kernel_rfl
theorem zc12 : tzc Tryd.prog 12 = some [(.int .u64 0)] := by kernel_rfl
theorem sr12 : tsrc Tryd.prog 12 = false := by kernel_rfl
theorem sz13 : tsz Tryd.prog 13 = some 2 := by kernel_rfl
theorem ag13 : tag Tryd.prog 13 = some (some 2) := by kernel_rfl
theorem zc13 : tzc Tryd.prog 13 = some [(.str ⟨#[]⟩), (.int .u64 0)] := by kernel_rfl
theorem sr13 : tsrc Tryd.prog 13 = true := by kernel_rfl
theorem fd13_0 : tfd Tryd.prog 13 0 = some (0, 9) := by kernel_rfl
theorem fo13_0 : tfo Tryd.prog 13 0 = some 0 := by kernel_rfl
theorem fd13_1 : tfd Tryd.prog 13 1 = some (1, 12) := by kernel_rfl
theorem fo13_1 : tfo Tryd.prog 13 1 = some 1 := by kernel_rfl
theorem pl13 : tpl Tryd.prog 13 = some [(0, 1), (1, 1)] := by kernel_rfl
theorem bd13 (ps : List (Nat × AV)) (K : AV → Prop) : aBuild Tryd.prog 13 ps K = aBld (tpl Tryd.prog 13) (tzc Tryd.prog 13) ps K := aBuild_eq (by rw [pl13]; rfl) ps K
theorem sz14 : tsz Tryd.prog 14 = some 2 := by kernel_rfl
theorem ag14 : tag Tryd.prog 14 = some (some 2) := by kernel_rfl
theorem zc14 : tzc Tryd.prog 14 = some [(.str ⟨#[]⟩), (.int .u64 0)] := by kernel_rfl
theorem sr14 : tsrc Tryd.prog 14 = true := by kernel_rfl
theorem fd14_0 : tfd Tryd.prog 14 0 = some (0, 9) := by kernel_rfl
theorem fo14_0 : tfo Tryd.prog 14 0 = some 0 := by kernel_rfl
theorem fd14_1 : tfd Tryd.prog 14 1 = some (1, 12) := by kernel_rfl
theorem fo14_1 : tfo Tryd.prog 14 1 = some 1 := by kernel_rfl
theorem pl14 : tpl Tryd.prog 14 = some [(0, 1), (1, 1)] := by kernel_rfl
theorem bd14 (ps : List (Nat × AV)) (K : AV → Prop) : aBuild Tryd.prog 14 ps K = aBld (tpl Tryd.prog 14) (tzc Tryd.prog 14) ps K := aBuild_eq (by rw [pl14]; rfl) ps K
theorem ni14 : tni Tryd.prog 14 = true := by kernel_rfl
theorem ta14 : tas Tryd.prog 14 = some (.agg [(.str ⟨#[]⟩), (.int .u64 0)]) := by kernel_rfl
theorem sz15 : tsz Tryd.prog 15 = some 1 := by kernel_rfl
theorem ag15 : tag Tryd.prog 15 = some none := by kernel_rfl
theorem zc15 : tzc Tryd.prog 15 = some [(.ptr none)] := by kernel_rfl
theorem sr15 : tsrc Tryd.prog 15 = true := by kernel_rfl
theorem ni15 : tni Tryd.prog 15 = true := by kernel_rfl
theorem ta15 : tas Tryd.prog 15 = some (.ptr none) := by kernel_rfl
theorem sz16 : tsz Tryd.prog 16 = some 1 := by kernel_rfl
theorem ag16 : tag Tryd.prog 16 = some none := by kernel_rfl
theorem zc16 : tzc Tryd.prog 16 = some [(.ptr none)] := by kernel_rfl
theorem sr16 : tsrc Tryd.prog 16 = true := by kernel_rfl
theorem ni16 : tni Tryd.prog 16 = true := by kernel_rfl
theorem ta16 : tas Tryd.prog 16 = some (.ptr none) := by kernel_rfl
theorem sz17 : tsz Tryd.prog 17 = some 1 := by kernel_rfl
theorem ag17 : tag Tryd.prog 17 = some none := by kernel_rfl
theorem zc17 : tzc Tryd.prog 17 = some [(.ptr none)] := by kernel_rfl
theorem sr17 : tsrc Tryd.prog 17 = true := by kernel_rfl
theorem ni17 : tni Tryd.prog 17 = true := by kernel_rfl
theorem ta17 : tas Tryd.prog 17 = some (.ptr none) := by kernel_rfl
theorem sz18 : tsz Tryd.prog 18 = some 1 := by kernel_rfl
theorem ag18 : tag Tryd.prog 18 = some (some 1) := by kernel_rfl
theorem zc18 : tzc Tryd.prog 18 = some [(.ptr none)] := by kernel_rfl
theorem sr18 : tsrc Tryd.prog 18 = true := by kernel_rfl
theorem fd18_0 : tfd Tryd.prog 18 0 = some (0, 17) := by kernel_rfl
theorem fo18_0 : tfo Tryd.prog 18 0 = some 0 := by kernel_rfl
theorem pl18 : tpl Tryd.prog 18 = some [(0, 1)] := by kernel_rfl
theorem bd18 (ps : List (Nat × AV)) (K : AV → Prop) : aBuild Tryd.prog 18 ps K = aBld (tpl Tryd.prog 18) (tzc Tryd.prog 18) ps K := aBuild_eq (by rw [pl18]; rfl) ps K
theorem sz19 : tsz Tryd.prog 19 = some 1 := by kernel_rfl
theorem ag19 : tag Tryd.prog 19 = some (some 1) := by kernel_rfl
theorem zc19 : tzc Tryd.prog 19 = some [(.ptr none)] := by kernel_rfl
theorem sr19 : tsrc Tryd.prog 19 = true := by kernel_rfl
theorem fd19_0 : tfd Tryd.prog 19 0 = some (0, 17) := by kernel_rfl
theorem fo19_0 : tfo Tryd.prog 19 0 = some 0 := by kernel_rfl
theorem pl19 : tpl Tryd.prog 19 = some [(0, 1)] := by kernel_rfl
theorem bd19 (ps : List (Nat × AV)) (K : AV → Prop) : aBuild Tryd.prog 19 ps K = aBld (tpl Tryd.prog 19) (tzc Tryd.prog 19) ps K := aBuild_eq (by rw [pl19]; rfl) ps K
theorem ni19 : tni Tryd.prog 19 = true := by kernel_rfl
theorem ta19 : tas Tryd.prog 19 = some (.agg [(.ptr none)]) := by kernel_rfl
theorem sz20 : tsz Tryd.prog 20 = some 1 := by kernel_rfl
theorem ag20 : tag Tryd.prog 20 = some none := by kernel_rfl
theorem zc20 : tzc Tryd.prog 20 = some [.nilIface] := by kernel_rfl
theorem sr20 : tsrc Tryd.prog 20 = true := by kernel_rfl
theorem if20 : tifc Tryd.prog 20 = true := by kernel_rfl
theorem sz21 : tsz Tryd.prog 21 = some 1 := by kernel_rfl
theorem ag21 : tag Tryd.prog 21 = some none := by kernel_rfl
theorem zc21 : tzc Tryd.prog 21 = some [(.int .i32 0)] := by kernel_rfl
theorem sr21 : tsrc Tryd.prog 21 = false := by kernel_rfl
theorem sz22 : tsz Tryd.prog 22 = some 1 := by kernel_rfl
theorem ag22 : tag Tryd.prog 22 = some none := by kernel_rfl
theorem zc22 : tzc Tryd.prog 22 = some [(.sl [] .full)] := by kernel_rfl
theorem sr22 : tsrc Tryd.prog 22 = true := by kernel_rfl
theorem el22 : tel Tryd.prog 22 = some (none, 1) := by kernel_rfl
theorem cu22 : tcut Tryd.prog 22 = some (some 1) := by kernel_rfl
theorem ap22 : tap Tryd.prog 22 = some (1, 16) := by kernel_rfl
theorem bs22 : tbs Tryd.prog 22 = some 1 := by kernel_rfl
theorem ms22 : tms Tryd.prog 22 = some (1, 16, [(.str ⟨#[]⟩)], 9) := by kernel_rfl
theorem mm22 (l c : AV) (h : AH) (K : AV → AH → Prop) : aMakeSlice Tryd.prog 22 l c h K = aMkT (tms Tryd.prog 22) l c h K := aMakeSlice_eq (by rw [ms22]; rfl) l c K
theorem mc22 (x : AV) (h : AH) (K : AV → AH → Prop) : aClear Tryd.prog 22 x h K = aClT (tms Tryd.prog 22) x h K := aClear_eq (by rw [ms22]; rfl) x K
theorem mb22 (n : Nat) (ps : List (Nat × AV)) (h : AH) (K : AV → AH → Prop) : aBuildSliceM Tryd.prog 22 n ps h K = aBsM (tms Tryd.prog 22) n ps h K := aBuildSliceM_eq (by rw [ms22]; rfl) n ps K
theorem ma22 (s x : AV) (h : AH) (K : AV → AH → Prop) : aAppendM Tryd.prog 22 22 s x h K = aApM (tms Tryd.prog 22) s x h K := aAppendM_eq sr22 (by rw [ms22]; rfl) s x K
theorem ae22_22 (s x : AV) (h : AH) (K : AV → AH → Prop) : aAppend Tryd.prog 22 22 s x h K = aAp (tap Tryd.prog 22) s x h K := aAppend_eq sr22 s x K
theorem ln22 : tlen Tryd.prog 22 = some .sl := by kernel_rfl
theorem sz23 : tsz Tryd.prog 23 = some 1 := by kernel_rfl
theorem ag23 : tag Tryd.prog 23 = some none := by kernel_rfl
theorem zc23 : tzc Tryd.prog 23 = some [(.sl [] .full)] := by kernel_rfl
theorem sr23 : tsrc Tryd.prog 23 = true := by kernel_rfl
theorem el23 : tel Tryd.prog 23 = some (none, 8) := by kernel_rfl
theorem cu23 : tcut Tryd.prog 23 = some (some 8) := by kernel_rfl
theorem ap23 : tap Tryd.prog 23 = some (8, 96) := by kernel_rfl
theorem bs23 : tbs Tryd.prog 23 = some 8 := by kernel_rfl
theorem ms23 : tms Tryd.prog 23 = some (8, 96, [(.str ⟨#[]⟩), (.int .i64 0), (.int .i64 0), (.int .i64 0), (.int .i64 0), (.int .i64 0), (.str ⟨#[]⟩), (.sl [] .full)], 40) := by kernel_rfl
theorem mm23 (l c : AV) (h : AH) (K : AV → AH → Prop) : aMakeSlice Tryd.prog 23 l c h K = aMkT (tms Tryd.prog 23) l c h K := aMakeSlice_eq (by rw [ms23]; rfl) l c K
theorem mc23 (x : AV) (h : AH) (K : AV → AH → Prop) : aClear Tryd.prog 23 x h K = aClT (tms Tryd.prog 23) x h K := aClear_eq (by rw [ms23]; rfl) x K
theorem mb23 (n : Nat) (ps : List (Nat × AV)) (h : AH) (K : AV → AH → Prop) : aBuildSliceM Tryd.prog 23 n ps h K = aBsM (tms Tryd.prog 23) n ps h K := aBuildSliceM_eq (by rw [ms23]; rfl) n ps K
theorem ma23 (s x : AV) (h : AH) (K : AV → AH → Prop) : aAppendM Tryd.prog 23 23 s x h K = aApM (tms Tryd.prog 23) s x h K := aAppendM_eq sr23 (by rw [ms23]; rfl) s x K
theorem ae23_23 (s x : AV) (h : AH) (K : AV → AH → Prop) : aAppend Tryd.prog 23 23 s x h K = aAp (tap Tryd.prog 23) s x h K := aAppend_eq sr23 s x K
theorem ln23 : tlen Tryd.prog 23 = some .sl := by kernel_rfl
theorem sz24 : tsz Tryd.prog 24 = some 1 := by kernel_rfl
theorem ag24 : tag Tryd.prog 24 = some none := by kernel_rfl
theorem zc24 : tzc Tryd.prog 24 = some [(.sl [] .full)] := by kernel_rfl
theorem sr24 : tsrc Tryd.prog 24 = true := by kernel_rfl
theorem el24 : tel Tryd.prog 24 = some (none, 5) := by kernel_rfl
theorem cu24 : tcut Tryd.prog 24 = some (some 5) := by kernel_rfl
theorem ap24 : tap Tryd.prog 24 = some (5, 64) := by kernel_rfl
theorem bs24 : tbs Tryd.prog 24 = some 5 := by kernel_rfl
theorem ms24 : tms Tryd.prog 24 = some (5, 64, [(.int .i64 0), (.int .i64 0), (.int .i64 0), (.str ⟨#[]⟩), (.sl [] .full)], 26) := by kernel_rfl
theorem mm24 (l c : AV) (h : AH) (K : AV → AH → Prop) : aMakeSlice Tryd.prog 24 l c h K = aMkT (tms Tryd.prog 24) l c h K := aMakeSlice_eq (by rw [ms24]; rfl) l c K
theorem mc24 (x : AV) (h : AH) (K : AV → AH → Prop) : aClear Tryd.prog 24 x h K = aClT (tms Tryd.prog 24) x h K := aClear_eq (by rw [ms24]; rfl) x K
theorem mb24 (n : Nat) (ps : List (Nat × AV)) (h : AH) (K : AV → AH → Prop) : aBuildSliceM Tryd.prog 24 n ps h K = aBsM (tms Tryd.prog 24) n ps h K := aBuildSliceM_eq (by rw [ms24]; rfl) n ps K
theorem ma24 (s x : AV) (h : AH) (K : AV → AH → Prop) : aAppendM Tryd.prog 24 24 s x h K = aApM (tms Tryd.prog 24) s x h K := aAppendM_eq sr24 (by rw [ms24]; rfl) s x K
theorem ae24_24 (s x : AV) (h : AH) (K : AV → AH → Prop) : aAppend Tryd.prog 24 24 s x h K = aAp (tap Tryd.prog 24) s x h K := aAppend_eq sr24 s x K
theorem ln24 : tlen Tryd.prog 24 = some .sl := by kernel_rfl
theorem sz25 : tsz Tryd.prog 25 = some 5 := by kernel_rfl
theorem ag25 : tag Tryd.prog 25 = some (some 5) := by kernel_rfl
theorem zc25 : tzc Tryd.prog 25 = some [(.int .i64 0), (.int .i64 0), (.int .i64 0), (.str ⟨#[]⟩), (.sl [] .full)] := by kernel_rfl
theorem sr25 : tsrc Tryd.prog 25 = true := by kernel_rfl
theorem fd25_0 : tfd Tryd.prog 25 0 = some (0, 3) := by kernel_rfl
theorem fo25_0 : tfo Tryd.prog 25 0 = some 0 := by kernel_rfl
theorem fd25_1 : tfd Tryd.prog 25 1 = some (1, 3) := by kernel_rfl
theorem fo25_1 : tfo Tryd.prog 25 1 = some 1 := by kernel_rfl
theorem fd25_2 : tfd Tryd.prog 25 2 = some (2, 3) := by kernel_rfl
theorem fo25_2 : tfo Tryd.prog 25 2 = some 2 := by kernel_rfl
theorem fd25_3 : tfd Tryd.prog 25 3 = some (3, 9) := by kernel_rfl
theorem fo25_3 : tfo Tryd.prog 25 3 = some 3 := by kernel_rfl
theorem fd25_4 : tfd Tryd.prog 25 4 = some (4, 24) := by kernel_rfl
theorem fo25_4 : tfo Tryd.prog 25 4 = some 4 := by kernel_rfl
theorem pl25 : tpl Tryd.prog 25 = some [(0, 1), (1, 1), (2, 1), (3, 1), (4, 1)] := by kernel_rfl
theorem bd25 (ps : List (Nat × AV)) (K : AV → Prop) : aBuild Tryd.prog 25 ps K = aBld (tpl Tryd.prog 25) (tzc Tryd.prog 25) ps K := aBuild_eq (by rw [pl25]; rfl) ps K
theorem sz26 : tsz Tryd.prog 26 = some 5 := by kernel_rfl
theorem ag26 : tag Tryd.prog 26 = some (some 5) := by kernel_rfl
theorem zc26 : tzc Tryd.prog 26 = some [(.int .i64 0), (.int .i64 0), (.int .i64 0), (.str ⟨#[]⟩), (.sl [] .full)] := by kernel_rfl
theorem sr26 : tsrc Tryd.prog 26 = true := by kernel_rfl
theorem fd26_0 : tfd Tryd.prog 26 0 = some (0, 3) := by kernel_rfl
theorem fo26_0 : tfo Tryd.prog 26 0 = some 0 := by kernel_rfl
theorem fd26_1 : tfd Tryd.prog 26 1 = some (1, 3) := by kernel_rfl
theorem fo26_1 : tfo Tryd.prog 26 1 = some 1 := by kernel_rfl
theorem fd26_2 : tfd Tryd.prog 26 2 = some (2, 3) := by kernel_rfl
theorem fo26_2 : tfo Tryd.prog 26 2 = some 2 := by kernel_rfl
theorem fd26_3 : tfd Tryd.prog 26 3 = some (3, 9) := by kernel_rfl
theorem fo26_3 : tfo Tryd.prog 26 3 = some 3 := by kernel_rfl
theorem fd26_4 : tfd Tryd.prog 26 4 = some (4, 24) := by kernel_rfl
theorem fo26_4 : tfo Tryd.prog 26 4 = some 4 := by kernel_rfl
theorem pl26 : tpl Tryd.prog 26 = some [(0, 1), (1, 1), (2, 1), (3, 1), (4, 1)] := by kernel_rfl
theorem bd26 (ps : List (Nat × AV)) (K : AV → Prop) : aBuild Tryd.prog 26 ps K = aBld (tpl Tryd.prog 26) (tzc Tryd.prog 26) ps K := aBuild_eq (by rw [pl26]; rfl) ps K
theorem ni26 : tni Tryd.prog 26 = true := by kernel_rfl
theorem ta26 : tas Tryd.prog 26 = some (.agg [(.int .i64 0), (.int .i64 0), (.int .i64 0), (.str ⟨#[]⟩), (.sl [] .full)]) := by kernel_rfl
theorem sz27 : tsz Tryd.prog 27 = some 10 := by kernel_rfl
theorem ag27 : tag Tryd.prog 27 = some (some 10) := by kernel_rfl
theorem zc27 : tzc Tryd.prog 27 = some [(.str ⟨#[]⟩), (.sl [] .full), (.sl [] .full), (.sl [] .full), (.int .i64 0), (.int .i64 0), (.int .i64 0), (.str ⟨#[]⟩), (.sl [] .full), (.int .i64 0)] := by kernel_rfl
theorem sr27 : tsrc Tryd.prog 27 = true := by kernel_rfl
theorem fd27_0 : tfd Tryd.prog 27 0 = some (0, 9) := by kernel_rfl
theorem fo27_0 : tfo Tryd.prog 27 0 = some 0 := by kernel_rfl
theorem fd27_1 : tfd Tryd.prog 27 1 = some (1, 22) := by kernel_rfl
theorem fo27_1 : tfo Tryd.prog 27 1 = some 1 := by kernel_rfl
theorem fd27_2 : tfd Tryd.prog 27 2 = some (2, 22) := by kernel_rfl
theorem fo27_2 : tfo Tryd.prog 27 2 = some 2 := by kernel_rfl
theorem fd27_3 : tfd Tryd.prog 27 3 = some (3, 23) := by kernel_rfl
theorem fo27_3 : tfo Tryd.prog 27 3 = some 3 := by kernel_rfl
theorem fd27_4 : tfd Tryd.prog 27 4 = some (4, 26) := by kernel_rfl
theorem fo27_4 : tfo Tryd.prog 27 4 = some 4 := by kernel_rfl
theorem fd27_5 : tfd Tryd.prog 27 5 = some (9, 3) := by kernel_rfl
theorem fo27_5 : tfo Tryd.prog 27 5 = some 9 := by kernel_rfl
theorem pl27 : tpl Tryd.prog 27 = some [(0, 1), (1, 1), (2, 1), (3, 1), (4, 5), (9, 1)] := by kernel_rfl
theorem bd27 (ps : List (Nat × AV)) (K : AV → Prop) : aBuild Tryd.prog 27 ps K = aBld (tpl Tryd.prog 27) (tzc Tryd.prog 27) ps K := aBuild_eq (by rw [pl27]; rfl) ps K
theorem sz28 : tsz Tryd.prog 28 = some 10 := by kernel_rfl
theorem ag28 : tag Tryd.prog 28 = some (some 10) := by kernel_rfl
theorem zc28 : tzc Tryd.prog 28 = some [(.str ⟨#[]⟩), (.sl [] .full), (.sl [] .full), (.sl [] .full), (.int .i64 0), (.int .i64 0), (.int .i64 0), (.str ⟨#[]⟩), (.sl [] .full), (.int .i64 0)] := by kernel_rfl
theorem sr28 : tsrc Tryd.prog 28 = true := by kernel_rfl
theorem fd28_0 : tfd Tryd.prog 28 0 = some (0, 9) := by kernel_rfl
theorem fo28_0 : tfo Tryd.prog 28 0 = some 0 := by kernel_rfl
theorem fd28_1 : tfd Tryd.prog 28 1 = some (1, 22) := by kernel_rfl
theorem fo28_1 : tfo Tryd.prog 28 1 = some 1 := by kernel_rfl
theorem fd28_2 : tfd Tryd.prog 28 2 = some (2, 22) := by kernel_rfl
theorem fo28_2 : tfo Tryd.prog 28 2 = some 2 := by kernel_rfl
theorem fd28_3 : tfd Tryd.prog 28 3 = some (3, 23) := by kernel_rfl
theorem fo28_3 : tfo Tryd.prog 28 3 = some 3 := by kernel_rfl
theorem fd28_4 : tfd Tryd.prog 28 4 = some (4, 26) := by kernel_rfl
theorem fo28_4 : tfo Tryd.prog 28 4 = some 4 := by kernel_rfl
theorem fd28_5 : tfd Tryd.prog 28 5 = some (9, 3) := by kernel_rfl
theorem fo28_5 : tfo Tryd.prog 28 5 = some 9 := by kernel_rfl
theorem pl28 : tpl Tryd.prog 28 = some [(0, 1), (1, 1), (2, 1), (3, 1), (4, 5), (9, 1)] := by kernel_rfl
theorem bd28 (ps : List (Nat × AV)) (K : AV → Prop) : aBuild Tryd.prog 28 ps K = aBld (tpl Tryd.prog 28) (tzc Tryd.prog 28) ps K := aBuild_eq (by rw [pl28]; rfl) ps K
theorem ni28 : tni Tryd.prog 28 = true := by kernel_rfl
theorem ta28 : tas Tryd.prog 28 = some (.agg [(.str ⟨#[]⟩), (.sl [] .full), (.sl [] .full), (.sl [] .full), (.int .i64 0), (.int .i64 0), (.int .i64 0), (.str ⟨#[]⟩), (.sl [] .full), (.int .i64 0)]) := by kernel_rfl
theorem sz29 : tsz Tryd.prog 29 = some 1 := by kernel_rfl
theorem ag29 : tag Tryd.prog 29 = some none := by kernel_rfl
theorem zc29 : tzc Tryd.prog 29 = some [(.sl [] .full)] := by kernel_rfl
theorem sr29 : tsrc Tryd.prog 29 = true := by kernel_rfl
theorem el29 : tel Tryd.prog 29 = some (none, 1) := by kernel_rfl
theorem cu29 : tcut Tryd.prog 29 = some (some 1) := by kernel_rfl
theorem ap29 : tap Tryd.prog 29 = some (1, 24) := by kernel_rfl
theorem bs29 : tbs Tryd.prog 29 = some 1 := by kernel_rfl
theorem ms29 : tms Tryd.prog 29 = some (1, 24, [(.sl [] .full)], 42) := by kernel_rfl
theorem mm29 (l c : AV) (h : AH) (K : AV → AH → Prop) : aMakeSlice Tryd.prog 29 l c h K = aMkT (tms Tryd.prog 29) l c h K := aMakeSlice_eq (by rw [ms29]; rfl) l c K
theorem mc29 (x : AV) (h : AH) (K : AV → AH → Prop) : aClear Tryd.prog 29 x h K = aClT (tms Tryd.prog 29) x h K := aClear_eq (by rw [ms29]; rfl) x K
theorem mb29 (n : Nat) (ps : List (Nat × AV)) (h : AH) (K : AV → AH → Prop) : aBuildSliceM Tryd.prog 29 n ps h K = aBsM (tms Tryd.prog 29) n ps h K := aBuildSliceM_eq (by rw [ms29]; rfl) n ps K
theorem ma29 (s x : AV) (h : AH) (K : AV → AH → Prop) : aAppendM Tryd.prog 29 29 s x h K = aApM (tms Tryd.prog 29) s x h K := aAppendM_eq sr29 (by rw [ms29]; rfl) s x K
theorem ae29_29 (s x : AV) (h : AH) (K : AV → AH → Prop) : aAppend Tryd.prog 29 29 s x h K = aAp (tap Tryd.prog 29) s x h K := aAppend_eq sr29 s x K
theorem ln29 : tlen Tryd.prog 29 = some .sl := by kernel_rfl
theorem sz30 : tsz Tryd.prog 30 = some 1 := by kernel_rfl
theorem ag30 : tag Tryd.prog 30 = some none := by kernel_rfl
theorem zc30 : tzc Tryd.prog 30 = some [(.sl [] .full)] := by kernel_rfl
theorem sr30 : tsrc Tryd.prog 30 = true := by kernel_rfl
theorem el30 : tel Tryd.prog 30 = some (none, 1) := by kernel_rfl
theorem cu30 : tcut Tryd.prog 30 = some (some 1) := by kernel_rfl
theorem ap30 : tap Tryd.prog 30 = some (1, 8) := by kernel_rfl
theorem bs30 : tbs Tryd.prog 30 = some 1 := by kernel_rfl
theorem ms30 : tms Tryd.prog 30 = some (1, 8, [(.int .i64 0)], 3) := by kernel_rfl
theorem mm30 (l c : AV) (h : AH) (K : AV → AH → Prop) : aMakeSlice Tryd.prog 30 l c h K = aMkT (tms Tryd.prog 30) l c h K := aMakeSlice_eq (by rw [ms30]; rfl) l c K
theorem mc30 (x : AV) (h : AH) (K : AV → AH → Prop) : aClear Tryd.prog 30 x h K = aClT (tms Tryd.prog 30) x h K := aClear_eq (by rw [ms30]; rfl) x K
theorem mb30 (n : Nat) (ps : List (Nat × AV)) (h : AH) (K : AV → AH → Prop) : aBuildSliceM Tryd.prog 30 n ps h K = aBsM (tms Tryd.prog 30) n ps h K := aBuildSliceM_eq (by rw [ms30]; rfl) n ps K
theorem ma30 (s x : AV) (h : AH) (K : AV → AH → Prop) : aAppendM Tryd.prog 30 30 s x h K = aApM (tms Tryd.prog 30) s x h K := aAppendM_eq sr30 (by rw [ms30]; rfl) s x K
theorem ae30_30 (s x : AV) (h : AH) (K : AV → AH → Prop) : aAppend Tryd.prog 30 30 s x h K = aAp (tap Tryd.prog 30) s x h K := aAppend_eq sr30 s x K
theorem ln30 : tlen Tryd.prog 30 = some .sl := by kernel_rfl
theorem sz31 : tsz Tryd.prog 31 = some 1 := by kernel_rfl
theorem ag31 : tag Tryd.prog 31 = some none := by kernel_rfl
theorem zc31 : tzc Tryd.prog 31 = some [.nilFunc] := by kernel_rfl
theorem sr31 : tsrc Tryd.prog 31 = true := by kernel_rfl
theorem sz32 : tsz Tryd.prog 32 = some 1 := by kernel_rfl
theorem ag32 : tag Tryd.prog 32 = some none := by kernel_rfl
theorem zc32 : tzc Tryd.prog 32 = some [.nilFunc] := by kernel_rfl
theorem sr32 : tsrc Tryd.prog 32 = true := by kernel_rfl
theorem sz33 : tsz Tryd.prog 33 = some 1 := by kernel_rfl
theorem ag33 : tag Tryd.prog 33 = some none := by kernel_rfl
theorem zc33 : tzc Tryd.prog 33 = some [(.int .i64 0)] := by kernel_rfl
theorem sr33 : tsrc Tryd.prog 33 = false := by kernel_rfl
theorem ni33 : tni Tryd.prog 33 = true := by kernel_rfl
theorem ta33 : tas Tryd.prog 33 = some (.int .i64 0) := by kernel_rfl
theorem sz35 : tsz Tryd.prog 35 = some 1 := by kernel_rfl
theorem ag35 : tag Tryd.prog 35 = some none := by kernel_rfl
theorem zc35 : tzc Tryd.prog 35 = some [.nilFunc] := by kernel_rfl
theorem sr35 : tsrc Tryd.prog 35 = true := by kernel_rfl
theorem sz36 : tsz Tryd.prog 36 = some 1 := by kernel_rfl
theorem ag36 : tag Tryd.prog 36 = some none := by kernel_rfl
theorem zc36 : tzc Tryd.prog 36 = some [.nilFunc] := by kernel_rfl
theorem sr36 : tsrc Tryd.prog 36 = true := by kernel_rfl
theorem sz37 : tsz Tryd.prog 37 = some 1 := by kernel_rfl
theorem ag37 : tag Tryd.prog 37 = some none := by kernel_rfl
theorem zc37 : tzc Tryd.prog 37 = some [.nilFunc] := by kernel_rfl
theorem sr37 : tsrc Tryd.prog 37 = true := by kernel_rfl
theorem sz38 : tsz Tryd.prog 38 = some 1 := by kernel_rfl
theorem ag38 : tag Tryd.prog 38 = some none := by kernel_rfl
theorem zc38 : tzc Tryd.prog 38 = some [.nilFunc] := by kernel_rfl
theorem sr38 : tsrc Tryd.prog 38 = true := by kernel_rfl
theorem sz39 : tsz Tryd.prog 39 = some 8 := by kernel_rfl
theorem ag39 : tag Tryd.prog 39 = some (some 8) := by kernel_rfl
theorem zc39 : tzc Tryd.prog 39 = some [(.str ⟨#[]⟩), (.int .i64 0), (.int .i64 0), (.int .i64 0), (.int .i64 0), (.int .i64 0), (.str ⟨#[]⟩), (.sl [] .full)] := by kernel_rfl
theorem sr39 : tsrc Tryd.prog 39 = true := by kernel_rfl
theorem fd39_0 : tfd Tryd.prog 39 0 = some (0, 9) := by kernel_rfl
theorem fo39_0 : tfo Tryd.prog 39 0 = some 0 := by kernel_rfl
theorem fd39_1 : tfd Tryd.prog 39 1 = some (1, 3) := by kernel_rfl
theorem fo39_1 : tfo Tryd.prog 39 1 = some 1 := by kernel_rfl
theorem fd39_2 : tfd Tryd.prog 39 2 = some (2, 3) := by kernel_rfl
theorem fo39_2 : tfo Tryd.prog 39 2 = some 2 := by kernel_rfl
theorem fd39_3 : tfd Tryd.prog 39 3 = some (3, 26) := by kernel_rfl
theorem fo39_3 : tfo Tryd.prog 39 3 = some 3 := by kernel_rfl
theorem pl39 : tpl Tryd.prog 39 = some [(0, 1), (1, 1), (2, 1), (3, 5)] := by kernel_rfl
theorem bd39 (ps : List (Nat × AV)) (K : AV → Prop) : aBuild Tryd.prog 39 ps K = aBld (tpl Tryd.prog 39) (tzc Tryd.prog 39) ps K := aBuild_eq (by rw [pl39]; rfl) ps K
theorem sz40 : tsz Tryd.prog 40 = some 8 := by kernel_rfl
theorem ag40 : tag Tryd.prog 40 = some (some 8) := by kernel_rfl
theorem zc40 : tzc Tryd.prog 40 = some [(.str ⟨#[]⟩), (.int .i64 0), (.int .i64 0), (.int .i64 0), (.int .i64 0), (.int .i64 0), (.str ⟨#[]⟩), (.sl [] .full)] := by kernel_rfl
theorem sr40 : tsrc Tryd.prog 40 = true := by kernel_rfl
theorem fd40_0 : tfd Tryd.prog 40 0 = some (0, 9) := by kernel_rfl
theorem fo40_0 : tfo Tryd.prog 40 0 = some 0 := by kernel_rfl
theorem fd40_1 : tfd Tryd.prog 40 1 = some (1, 3) := by kernel_rfl
theorem fo40_1 : tfo Tryd.prog 40 1 = some 1 := by kernel_rfl
theorem fd40_2 : tfd Tryd.prog 40 2 = some (2, 3) := by kernel_rfl
theorem fo40_2 : tfo Tryd.prog 40 2 = some 2 := by kernel_rfl
theorem fd40_3 : tfd Tryd.prog 40 3 = some (3, 26) := by kernel_rfl
theorem fo40_3 : tfo Tryd.prog 40 3 = some 3 := by kernel_rfl
theorem pl40 : tpl Tryd.prog 40 = some [(0, 1), (1, 1), (2, 1), (3, 5)] := by kernel_rfl
theorem bd40 (ps : List (Nat × AV)) (K : AV → Prop) : aBuild Tryd.prog 40 ps K = aBld (tpl Tryd.prog 40) (tzc Tryd.prog 40) ps K := aBuild_eq (by rw [pl40]; rfl) ps K
theorem ni40 : tni Tryd.prog 40 = true := by kernel_rfl
theorem ta40 : tas Tryd.prog 40 = some (.agg [(.str ⟨#[]⟩), (.int .i64 0), (.int .i64 0), (.int .i64 0), (.int .i64 0), (.int .i64 0), (.str ⟨#[]⟩), (.sl [] .full)]) := by kernel_rfl
theorem sz41 : tsz Tryd.prog 41 = some 1 := by kernel_rfl
theorem ag41 : tag Tryd.prog 41 = some none := by kernel_rfl
theorem zc41 : tzc Tryd.prog 41 = some [.nilFunc] := by kernel_rfl
theorem sr41 : tsrc Tryd.prog 41 = true := by kernel_rfl
theorem sz42 : tsz Tryd.prog 42 = some 1 := by kernel_rfl
theorem ag42 : tag Tryd.prog 42 = some none := by kernel_rfl
theorem zc42 : tzc Tryd.prog 42 = some [(.sl [] .full)] := by kernel_rfl
theorem sr42 : tsrc Tryd.prog 42 = true := by kernel_rfl
theorem el42 : tel Tryd.prog 42 = some (none, 2) := by kernel_rfl
theorem cu42 : tcut Tryd.prog 42 = some (some 2) := by kernel_rfl
theorem ap42 : tap Tryd.prog 42 = some (2, 16) := by kernel_rfl
theorem bs42 : tbs Tryd.prog 42 = some 2 := by kernel_rfl
theorem ms42 : tms Tryd.prog 42 = some (2, 16, [(.int .i64 0), (.int .i64 0)], 44) := by kernel_rfl
theorem mm42 (l c : AV) (h : AH) (K : AV → AH → Prop) : aMakeSlice Tryd.prog 42 l c h K = aMkT (tms Tryd.prog 42) l c h K := aMakeSlice_eq (by rw [ms42]; rfl) l c K
theorem mc42 (x : AV) (h : AH) (K : AV → AH → Prop) : aClear Tryd.prog 42 x h K = aClT (tms Tryd.prog 42) x h K := aClear_eq (by rw [ms42]; rfl) x K
theorem mb42 (n : Nat) (ps : List (Nat × AV)) (h : AH) (K : AV → AH → Prop) : aBuildSliceM Tryd.prog 42 n ps h K = aBsM (tms Tryd.prog 42) n ps h K := aBuildSliceM_eq (by rw [ms42]; rfl) n ps K
theorem ma42 (s x : AV) (h : AH) (K : AV → AH → Prop) : aAppendM Tryd.prog 42 42 s x h K = aApM (tms Tryd.prog 42) s x h K := aAppendM_eq sr42 (by rw [ms42]; rfl) s x K
theorem ae42_42 (s x : AV) (h : AH) (K : AV → AH → Prop) : aAppend Tryd.prog 42 42 s x h K = aAp (tap Tryd.prog 42) s x h K := aAppend_eq sr42 s x K
theorem ln42 : tlen Tryd.prog 42 = some .sl := by kernel_rfl
theorem sz43 : tsz Tryd.prog 43 = some 2 := by kernel_rfl
theorem ag43 : tag Tryd.prog 43 = some (some 2) := by kernel_rfl
theorem zc43 : tzc Tryd.prog 43 = some [(.int .i64 0), (.int .i64 0)] := by kernel_rfl
theorem sr43 : tsrc Tryd.prog 43 = true := by kernel_rfl
theorem fd43_0 : tfd Tryd.prog 43 0 = some (0, 3) := by kernel_rfl
theorem fo43_0 : tfo Tryd.prog 43 0 = some 0 := by kernel_rfl
theorem fd43_1 : tfd Tryd.prog 43 1 = some (1, 3) := by kernel_rfl
theorem fo43_1 : tfo Tryd.prog 43 1 = some 1 := by kernel_rfl
theorem pl43 : tpl Tryd.prog 43 = some [(0, 1), (1, 1)] := by kernel_rfl
theorem bd43 (ps : List (Nat × AV)) (K : AV → Prop) : aBuild Tryd.prog 43 ps K = aBld (tpl Tryd.prog 43) (tzc Tryd.prog 43) ps K := aBuild_eq (by rw [pl43]; rfl) ps K
theorem sz44 : tsz Tryd.prog 44 = some 2 := by kernel_rfl
theorem ag44 : tag Tryd.prog 44 = some (some 2) := by kernel_rfl
theorem zc44 : tzc Tryd.prog 44 = some [(.int .i64 0), (.int .i64 0)] := by kernel_rfl
theorem sr44 : tsrc Tryd.prog 44 = true := by kernel_rfl
theorem fd44_0 : tfd Tryd.prog 44 0 = some (0, 3) := by kernel_rfl
theorem fo44_0 : tfo Tryd.prog 44 0 = some 0 := by kernel_rfl
theorem fd44_1 : tfd Tryd.prog 44 1 = some (1, 3) := by kernel_rfl
theorem fo44_1 : tfo Tryd.prog 44 1 = some 1 := by kernel_rfl
theorem pl44 : tpl Tryd.prog 44 = some [(0, 1), (1, 1)] := by kernel_rfl
theorem bd44 (ps : List (Nat × AV)) (K : AV → Prop) : aBuild Tryd.prog 44 ps K = aBld (tpl Tryd.prog 44) (tzc Tryd.prog 44) ps K := aBuild_eq (by rw [pl44]; rfl) ps K
theorem es44 : teqS Tryd.prog 44 = some [(0, .int), (1, .int)] := by kernel_rfl
theorem ni44 : tni Tryd.prog 44 = true := by kernel_rfl
theorem ta44 : tas Tryd.prog 44 = some (.agg [(.int .i64 0), (.int .i64 0)]) := by kernel_rfl
theorem sz45 : tsz Tryd.prog 45 = some 1 := by kernel_rfl
theorem ag45 : tag Tryd.prog 45 = some none := by kernel_rfl
theorem zc45 : tzc Tryd.prog 45 = some [.nilFunc] := by kernel_rfl
theorem sr45 : tsrc Tryd.prog 45 = true := by kernel_rfl
theorem sz46 : tsz Tryd.prog 46 = some 1 := by kernel_rfl
theorem ag46 : tag Tryd.prog 46 = some none := by kernel_rfl
theorem zc46 : tzc Tryd.prog 46 = some [.nilFunc] := by kernel_rfl
theorem sr46 : tsrc Tryd.prog 46 = true := by kernel_rfl
theorem sz47 : tsz Tryd.prog 47 = some 1 := by kernel_rfl
theorem ag47 : tag Tryd.prog 47 = some none := by kernel_rfl
theorem zc47 : tzc Tryd.prog 47 = some [.nilFunc] := by kernel_rfl
theorem sr47 : tsrc Tryd.prog 47 = true := by kernel_rfl
theorem sz48 : tsz Tryd.prog 48 = some 1 := by kernel_rfl
theorem ag48 : tag Tryd.prog 48 = some none := by kernel_rfl
theorem zc48 : tzc Tryd.prog 48 = some [.nilFunc] := by kernel_rfl
theorem sr48 : tsrc Tryd.prog 48 = true := by kernel_rfl
theorem sz49 : tsz Tryd.prog 49 = some 1 := by kernel_rfl
theorem ag49 : tag Tryd.prog 49 = some none := by kernel_rfl
theorem zc49 : tzc Tryd.prog 49 = some [.nilFunc] := by kernel_rfl
theorem sr49 : tsrc Tryd.prog 49 = true := by kernel_rfl
theorem sz50 : tsz Tryd.prog 50 = some 1 := by kernel_rfl
theorem ag50 : tag Tryd.prog 50 = some none := by kernel_rfl
theorem zc50 : tzc Tryd.prog 50 = some [.nilFunc] := by kernel_rfl
theorem sr50 : tsrc Tryd.prog 50 = true := by kernel_rfl
theorem sz51 : tsz Tryd.prog 51 = some 1 := by kernel_rfl
theorem ag51 : tag Tryd.prog 51 = some none := by kernel_rfl
theorem zc51 : tzc Tryd.prog 51 = some [.nilFunc] := by kernel_rfl
theorem sr51 : tsrc Tryd.prog 51 = true := by kernel_rfl
theorem sz52 : tsz Tryd.prog 52 = some 1 := by kernel_rfl
theorem ag52 : tag Tryd.prog 52 = some none := by kernel_rfl
theorem zc52 : tzc Tryd.prog 52 = some [.nilFunc] := by kernel_rfl
theorem sr52 : tsrc Tryd.prog 52 = true := by kernel_rfl
theorem sz53 : tsz Tryd.prog 53 = some 1 := by kernel_rfl
theorem ag53 : tag Tryd.prog 53 = some none := by kernel_rfl
theorem zc53 : tzc Tryd.prog 53 = some [.nilFunc] := by kernel_rfl
theorem sr53 : tsrc Tryd.prog 53 = true := by kernel_rfl
theorem sz54 : tsz Tryd.prog 54 = some 1 := by kernel_rfl
theorem ag54 : tag Tryd.prog 54 = some none := by kernel_rfl
theorem zc54 : tzc Tryd.prog 54 = some [.nilFunc] := by kernel_rfl
theorem sr54 : tsrc Tryd.prog 54 = true := by kernel_rfl
theorem sz55 : tsz Tryd.prog 55 = some 1 := by kernel_rfl
theorem ag55 : tag Tryd.prog 55 = some none := by kernel_rfl
theorem zc55 : tzc Tryd.prog 55 = some [.nilFunc] := by kernel_rfl
theorem sr55 : tsrc Tryd.prog 55 = true := by kernel_rfl
theorem sz56 : tsz Tryd.prog 56 = some 1 := by kernel_rfl
theorem ag56 : tag Tryd.prog 56 = some none := by kernel_rfl
theorem zc56 : tzc Tryd.prog 56 = some [.nilFunc] := by kernel_rfl
theorem sr56 : tsrc Tryd.prog 56 = true := by kernel_rfl
theorem sz57 : tsz Tryd.prog 57 = some 1 := by kernel_rfl
theorem ag57 : tag Tryd.prog 57 = some none := by kernel_rfl
theorem zc57 : tzc Tryd.prog 57 = some [.nilFunc] := by kernel_rfl
theorem sr57 : tsrc Tryd.prog 57 = true := by kernel_rfl
theorem sz58 : tsz Tryd.prog 58 = some 3 := by kernel_rfl
theorem ag58 : tag Tryd.prog 58 = some (some 3) := by kernel_rfl
theorem zc58 : tzc Tryd.prog 58 = some [(.int .i64 0), (.sl [] .full), (.sl [] .full)] := by kernel_rfl
theorem sr58 : tsrc Tryd.prog 58 = true := by kernel_rfl
theorem fd58_0 : tfd Tryd.prog 58 0 = some (0, 3) := by kernel_rfl
theorem fo58_0 : tfo Tryd.prog 58 0 = some 0 := by kernel_rfl
theorem fd58_1 : tfd Tryd.prog 58 1 = some (1, 29) := by kernel_rfl
theorem fo58_1 : tfo Tryd.prog 58 1 = some 1 := by kernel_rfl
theorem fd58_2 : tfd Tryd.prog 58 2 = some (2, 30) := by kernel_rfl
theorem fo58_2 : tfo Tryd.prog 58 2 = some 2 := by kernel_rfl
theorem pl58 : tpl Tryd.prog 58 = some [(0, 1), (1, 1), (2, 1)] := by kernel_rfl
theorem bd58 (ps : List (Nat × AV)) (K : AV → Prop) : aBuild Tryd.prog 58 ps K = aBld (tpl Tryd.prog 58) (tzc Tryd.prog 58) ps K := aBuild_eq (by rw [pl58]; rfl) ps K
theorem sz59 : tsz Tryd.prog 59 = some 3 := by kernel_rfl
theorem ag59 : tag Tryd.prog 59 = some (some 3) := by kernel_rfl
theorem zc59 : tzc Tryd.prog 59 = some [(.int .i64 0), (.sl [] .full), (.sl [] .full)] := by kernel_rfl
theorem sr59 : tsrc Tryd.prog 59 = true := by kernel_rfl
theorem fd59_0 : tfd Tryd.prog 59 0 = some (0, 3) := by kernel_rfl
theorem fo59_0 : tfo Tryd.prog 59 0 = some 0 := by kernel_rfl
theorem fd59_1 : tfd Tryd.prog 59 1 = some (1, 29) := by kernel_rfl
theorem fo59_1 : tfo Tryd.prog 59 1 = some 1 := by kernel_rfl
theorem fd59_2 : tfd Tryd.prog 59 2 = some (2, 30) := by kernel_rfl
theorem fo59_2 : tfo Tryd.prog 59 2 = some 2 := by kernel_rfl
theorem pl59 : tpl Tryd.prog 59 = some [(0, 1), (1, 1), (2, 1)] := by kernel_rfl
theorem bd59 (ps : List (Nat × AV)) (K : AV → Prop) : aBuild Tryd.prog 59 ps K = aBld (tpl Tryd.prog 59) (tzc Tryd.prog 59) ps K := aBuild_eq (by rw [pl59]; rfl) ps K
theorem ni59 : tni Tryd.prog 59 = true := by kernel_rfl
theorem ta59 : tas Tryd.prog 59 = some (.agg [(.int .i64 0), (.sl [] .full), (.sl [] .full)]) := by kernel_rfl
theorem sz60 : tsz Tryd.prog 60 = some 1 := by kernel_rfl
theorem ag60 : tag Tryd.prog 60 = some none := by kernel_rfl
theorem zc60 : tzc Tryd.prog 60 = some [.nilFunc] := by kernel_rfl
theorem sr60 : tsrc Tryd.prog 60 = true := by kernel_rfl
theorem sz61 : tsz Tryd.prog 61 = some 2 := by kernel_rfl
theorem ag61 : tag Tryd.prog 61 = some (some 2) := by kernel_rfl
theorem zc61 : tzc Tryd.prog 61 = some [(.str ⟨#[]⟩), (.str ⟨#[]⟩)] := by kernel_rfl
theorem sr61 : tsrc Tryd.prog 61 = true := by kernel_rfl
theorem es61 : teqS Tryd.prog 61 = none := by kernel_rfl
theorem el61 : tel Tryd.prog 61 = some (some 2, 1) := by kernel_rfl
theorem ln61 : tlen Tryd.prog 61 = some (.arr 2) := by kernel_rfl
theorem sz63 : tsz Tryd.prog 63 = some 1 := by kernel_rfl
theorem ag63 : tag Tryd.prog 63 = some none := by kernel_rfl
theorem zc63 : tzc Tryd.prog 63 = some [.nilFunc] := by kernel_rfl
theorem sr63 : tsrc Tryd.prog 63 = true := by kernel_rfl
theorem sz64 : tsz Tryd.prog 64 = some 1 := by kernel_rfl
theorem ag64 : tag Tryd.prog 64 = some none := by kernel_rfl
theorem zc64 : tzc Tryd.prog 64 = some [.nilFunc] := by kernel_rfl
theorem sr64 : tsrc Tryd.prog 64 = true := by kernel_rfl
theorem sz65 : tsz Tryd.prog 65 = some 1 := by kernel_rfl
theorem ag65 : tag Tryd.prog 65 = some none := by kernel_rfl
theorem zc65 : tzc Tryd.prog 65 = some [.nilFunc] := by kernel_rfl
theorem sr65 : tsrc Tryd.prog 65 = true := by kernel_rfl
theorem sz66 : tsz Tryd.prog 66 = some 5 := by kernel_rfl
theorem ag66 : tag Tryd.prog 66 = some (some 5) := by kernel_rfl
theorem zc66 : tzc Tryd.prog 66 = some [.nilFunc, .nilFunc, .nilFunc, .nilFunc, .nilFunc] := by kernel_rfl
theorem sr66 : tsrc Tryd.prog 66 = true := by kernel_rfl
theorem es66 : teqS Tryd.prog 66 = none := by kernel_rfl
theorem el66 : tel Tryd.prog 66 = some (some 5, 1) := by kernel_rfl
theorem ln66 : tlen Tryd.prog 66 = some (.arr 5) := by kernel_rfl
theorem sz67 : tsz Tryd.prog 67 = some 1 := by kernel_rfl
theorem ag67 : tag Tryd.prog 67 = some none := by kernel_rfl
theorem zc67 : tzc Tryd.prog 67 = some [.nilFunc] := by kernel_rfl
theorem sr67 : tsrc Tryd.prog 67 = true := by kernel_rfl
theorem sz68 : tsz Tryd.prog 68 = some 1 := by kernel_rfl
theorem ag68 : tag Tryd.prog 68 = some none := by kernel_rfl
theorem zc68 : tzc Tryd.prog 68 = some [.nilFunc] := by kernel_rfl
theorem sr68 : tsrc Tryd.prog 68 = true := by kernel_rfl
theorem sz69 : tsz Tryd.prog 69 = some 1 := by kernel_rfl
theorem ag69 : tag Tryd.prog 69 = some none := by kernel_rfl
theorem zc69 : tzc Tryd.prog 69 = some [.nilFunc] := by kernel_rfl
theorem sr69 : tsrc Tryd.prog 69 = true := by kernel_rfl
theorem sz70 : tsz Tryd.prog 70 = some 1 := by kernel_rfl
theorem ag70 : tag Tryd.prog 70 = some none := by kernel_rfl
theorem zc70 : tzc Tryd.prog 70 = some [.nilFunc] := by kernel_rfl
theorem sr70 : tsrc Tryd.prog 70 = true := by kernel_rfl
theorem sz71 : tsz Tryd.prog 71 = some 1 := by kernel_rfl
theorem ag71 : tag Tryd.prog 71 = some none := by kernel_rfl
theorem zc71 : tzc Tryd.prog 71 = some [.nilFunc] := by kernel_rfl
theorem sr71 : tsrc Tryd.prog 71 = true := by kernel_rfl
theorem sz72 : tsz Tryd.prog 72 = some 1 := by kernel_rfl
theorem ag72 : tag Tryd.prog 72 = some none := by kernel_rfl
theorem zc72 : tzc Tryd.prog 72 = some [.nilFunc] := by kernel_rfl
theorem sr72 : tsrc Tryd.prog 72 = true := by kernel_rfl
theorem sz73 : tsz Tryd.prog 73 = some 1 := by kernel_rfl
theorem ag73 : tag Tryd.prog 73 = some none := by kernel_rfl
theorem zc73 : tzc Tryd.prog 73 = some [.nilFunc] := by kernel_rfl
theorem sr73 : tsrc Tryd.prog 73 = true := by kernel_rfl
theorem sz74 : tsz Tryd.prog 74 = some 1 := by kernel_rfl
theorem ag74 : tag Tryd.prog 74 = some none := by kernel_rfl
theorem zc74 : tzc Tryd.prog 74 = some [.nilFunc] := by kernel_rfl
theorem sr74 : tsrc Tryd.prog 74 = true := by kernel_rfl
theorem sz75 : tsz Tryd.prog 75 = some 6 := by kernel_rfl
theorem ag75 : tag Tryd.prog 75 = some (some 6) := by kernel_rfl
theorem zc75 : tzc Tryd.prog 75 = some [(.int .i64 0), (.int .i64 0), (.int .i64 0), (.str ⟨#[]⟩), (.sl [] .full), (.int .i64 0)] := by kernel_rfl
theorem sr75 : tsrc Tryd.prog 75 = true := by kernel_rfl
theorem fd75_0 : tfd Tryd.prog 75 0 = some (0, 26) := by kernel_rfl
theorem fo75_0 : tfo Tryd.prog 75 0 = some 0 := by kernel_rfl
theorem fd75_1 : tfd Tryd.prog 75 1 = some (5, 3) := by kernel_rfl
theorem fo75_1 : tfo Tryd.prog 75 1 = some 5 := by kernel_rfl
theorem pl75 : tpl Tryd.prog 75 = some [(0, 5), (5, 1)] := by kernel_rfl
theorem bd75 (ps : List (Nat × AV)) (K : AV → Prop) : aBuild Tryd.prog 75 ps K = aBld (tpl Tryd.prog 75) (tzc Tryd.prog 75) ps K := aBuild_eq (by rw [pl75]; rfl) ps K
theorem sz76 : tsz Tryd.prog 76 = some 6 := by kernel_rfl
theorem ag76 : tag Tryd.prog 76 = some (some 6) := by kernel_rfl
theorem zc76 : tzc Tryd.prog 76 = some [(.int .i64 0), (.int .i64 0), (.int .i64 0), (.str ⟨#[]⟩), (.sl [] .full), (.int .i64 0)] := by kernel_rfl
theorem sr76 : tsrc Tryd.prog 76 = true := by kernel_rfl
theorem fd76_0 : tfd Tryd.prog 76 0 = some (0, 26) := by kernel_rfl
theorem fo76_0 : tfo Tryd.prog 76 0 = some 0 := by kernel_rfl
theorem fd76_1 : tfd Tryd.prog 76 1 = some (5, 3) := by kernel_rfl
theorem fo76_1 : tfo Tryd.prog 76 1 = some 5 := by kernel_rfl
theorem pl76 : tpl Tryd.prog 76 = some [(0, 5), (5, 1)] := by kernel_rfl
theorem bd76 (ps : List (Nat × AV)) (K : AV → Prop) : aBuild Tryd.prog 76 ps K = aBld (tpl Tryd.prog 76) (tzc Tryd.prog 76) ps K := aBuild_eq (by rw [pl76]; rfl) ps K
theorem ni76 : tni Tryd.prog 76 = true := by kernel_rfl
theorem ta76 : tas Tryd.prog 76 = some (.agg [(.int .i64 0), (.int .i64 0), (.int .i64 0), (.str ⟨#[]⟩), (.sl [] .full), (.int .i64 0)]) := by kernel_rfl
theorem sz77 : tsz Tryd.prog 77 = some 1 := by kernel_rfl
theorem ag77 : tag Tryd.prog 77 = some none := by kernel_rfl
theorem zc77 : tzc Tryd.prog 77 = some [.nilFunc] := by kernel_rfl
theorem sr77 : tsrc Tryd.prog 77 = true := by kernel_rfl
theorem sz78 : tsz Tryd.prog 78 = some 1 := by kernel_rfl
theorem ag78 : tag Tryd.prog 78 = some none := by kernel_rfl
theorem zc78 : tzc Tryd.prog 78 = some [.nilFunc] := by kernel_rfl
theorem sr78 : tsrc Tryd.prog 78 = true := by kernel_rfl
theorem sz79 : tsz Tryd.prog 79 = some 1 := by kernel_rfl
theorem ag79 : tag Tryd.prog 79 = some none := by kernel_rfl
theorem zc79 : tzc Tryd.prog 79 = some [.nilFunc] := by kernel_rfl
theorem sr79 : tsrc Tryd.prog 79 = true := by kernel_rfl
theorem sz80 : tsz Tryd.prog 80 = some 1 := by kernel_rfl
theorem ag80 : tag Tryd.prog 80 = some none := by kernel_rfl
theorem zc80 : tzc Tryd.prog 80 = some [.nilFunc] := by kernel_rfl
theorem sr80 : tsrc Tryd.prog 80 = true := by kernel_rfl
theorem sz81 : tsz Tryd.prog 81 = some 1 := by kernel_rfl
theorem ag81 : tag Tryd.prog 81 = some none := by kernel_rfl
theorem zc81 : tzc Tryd.prog 81 = some [.nilFunc] := by kernel_rfl
theorem sr81 : tsrc Tryd.prog 81 = true := by kernel_rfl
theorem sz82 : tsz Tryd.prog 82 = some 1 := by kernel_rfl
theorem ag82 : tag Tryd.prog 82 = some none := by kernel_rfl
theorem zc82 : tzc Tryd.prog 82 = some [.nilFunc] := by kernel_rfl
theorem sr82 : tsrc Tryd.prog 82 = true := by kernel_rfl
theorem sz83 : tsz Tryd.prog 83 = some 1 := by kernel_rfl
theorem ag83 : tag Tryd.prog 83 = some none := by kernel_rfl
theorem zc83 : tzc Tryd.prog 83 = some [.nilFunc] := by kernel_rfl
theorem sr83 : tsrc Tryd.prog 83 = true := by kernel_rfl
theorem sz84 : tsz Tryd.prog 84 = some 1 := by kernel_rfl
theorem ag84 : tag Tryd.prog 84 = some none := by kernel_rfl
theorem zc84 : tzc Tryd.prog 84 = some [.nilFunc] := by kernel_rfl
theorem sr84 : tsrc Tryd.prog 84 = true := by kernel_rfl
theorem sz85 : tsz Tryd.prog 85 = some 1 := by kernel_rfl
theorem ag85 : tag Tryd.prog 85 = some (some 1) := by kernel_rfl
theorem zc85 : tzc Tryd.prog 85 = some [(.int .i64 0)] := by kernel_rfl
theorem sr85 : tsrc Tryd.prog 85 = true := by kernel_rfl
theorem fd85_0 : tfd Tryd.prog 85 0 = some (0, 33) := by kernel_rfl
theorem fo85_0 : tfo Tryd.prog 85 0 = some 0 := by kernel_rfl
theorem pl85 : tpl Tryd.prog 85 = some [(0, 1)] := by kernel_rfl
theorem bd85 (ps : List (Nat × AV)) (K : AV → Prop) : aBuild Tryd.prog 85 ps K = aBld (tpl Tryd.prog 85) (tzc Tryd.prog 85) ps K := aBuild_eq (by rw [pl85]; rfl) ps K
theorem sz86 : tsz Tryd.prog 86 = some 1 := by kernel_rfl
theorem ag86 : tag Tryd.prog 86 = some (some 1) := by kernel_rfl
theorem zc86 : tzc Tryd.prog 86 = some [(.int .i64 0)] := by kernel_rfl
theorem sr86 : tsrc Tryd.prog 86 = true := by kernel_rfl
theorem fd86_0 : tfd Tryd.prog 86 0 = some (0, 33) := by kernel_rfl
theorem fo86_0 : tfo Tryd.prog 86 0 = some 0 := by kernel_rfl
theorem pl86 : tpl Tryd.prog 86 = some [(0, 1)] := by kernel_rfl
theorem bd86 (ps : List (Nat × AV)) (K : AV → Prop) : aBuild Tryd.prog 86 ps K = aBld (tpl Tryd.prog 86) (tzc Tryd.prog 86) ps K := aBuild_eq (by rw [pl86]; rfl) ps K
theorem es86 : teqS Tryd.prog 86 = some [(0, .int)] := by kernel_rfl
theorem ni86 : tni Tryd.prog 86 = true := by kernel_rfl
theorem ta86 : tas Tryd.prog 86 = some (.agg [(.int .i64 0)]) := by kernel_rfl
theorem sz88 : tsz Tryd.prog 88 = some 1 := by kernel_rfl
theorem ag88 : tag Tryd.prog 88 = some none := by kernel_rfl
theorem zc88 : tzc Tryd.prog 88 = some [.nilFunc] := by kernel_rfl
theorem sr88 : tsrc Tryd.prog 88 = true := by kernel_rfl
theorem sz89 : tsz Tryd.prog 89 = some 1 := by kernel_rfl
theorem ag89 : tag Tryd.prog 89 = some none := by kernel_rfl
theorem zc89 : tzc Tryd.prog 89 = some [.nilFunc] := by kernel_rfl
theorem sr89 : tsrc Tryd.prog 89 = true := by kernel_rfl
theorem sz90 : tsz Tryd.prog 90 = some 1 := by kernel_rfl
theorem ag90 : tag Tryd.prog 90 = some none := by kernel_rfl
theorem zc90 : tzc Tryd.prog 90 = some [.nilFunc] := by kernel_rfl
theorem sr90 : tsrc Tryd.prog 90 = true := by kernel_rfl
theorem sz91 : tsz Tryd.prog 91 = some 1 := by kernel_rfl
theorem ag91 : tag Tryd.prog 91 = some none := by kernel_rfl
theorem zc91 : tzc Tryd.prog 91 = some [.nilFunc] := by kernel_rfl
theorem sr91 : tsrc Tryd.prog 91 = true := by kernel_rfl
theorem sz92 : tsz Tryd.prog 92 = some 1 := by kernel_rfl
theorem ag92 : tag Tryd.prog 92 = some none := by kernel_rfl
theorem zc92 : tzc Tryd.prog 92 = some [.nilFunc] := by kernel_rfl
theorem sr92 : tsrc Tryd.prog 92 = true := by kernel_rfl
theorem sz93 : tsz Tryd.prog 93 = some 1 := by kernel_rfl
theorem ag93 : tag Tryd.prog 93 = some none := by kernel_rfl
theorem zc93 : tzc Tryd.prog 93 = some [.nilFunc] := by kernel_rfl
theorem sr93 : tsrc Tryd.prog 93 = true := by kernel_rfl
theorem sz94 : tsz Tryd.prog 94 = some 5 := by kernel_rfl
theorem ag94 : tag Tryd.prog 94 = some (some 5) := by kernel_rfl
theorem zc94 : tzc Tryd.prog 94 = some [.nilFunc, .nilFunc, .nilFunc, .nilFunc, .nilFunc] := by kernel_rfl
theorem sr94 : tsrc Tryd.prog 94 = true := by kernel_rfl
theorem es94 : teqS Tryd.prog 94 = none := by kernel_rfl
theorem el94 : tel Tryd.prog 94 = some (some 5, 1) := by kernel_rfl
theorem ln94 : tlen Tryd.prog 94 = some (.arr 5) := by kernel_rfl
theorem sz95 : tsz Tryd.prog 95 = some 1 := by kernel_rfl
theorem ag95 : tag Tryd.prog 95 = some none := by kernel_rfl
theorem zc95 : tzc Tryd.prog 95 = some [.nilFunc] := by kernel_rfl
theorem sr95 : tsrc Tryd.prog 95 = true := by kernel_rfl
theorem sz96 : tsz Tryd.prog 96 = some 1 := by kernel_rfl
theorem ag96 : tag Tryd.prog 96 = some none := by kernel_rfl
theorem zc96 : tzc Tryd.prog 96 = some [.nilFunc] := by kernel_rfl
theorem sr96 : tsrc Tryd.prog 96 = true := by kernel_rfl
theorem sz98 : tsz Tryd.prog 98 = some 1 := by kernel_rfl
theorem ag98 : tag Tryd.prog 98 = some none := by kernel_rfl
theorem zc98 : tzc Tryd.prog 98 = some [.nilFunc] := by kernel_rfl
theorem sr98 : tsrc Tryd.prog 98 = true := by kernel_rfl
theorem sz99 : tsz Tryd.prog 99 = some 1 := by kernel_rfl
theorem ag99 : tag Tryd.prog 99 = some none := by kernel_rfl
theorem zc99 : tzc Tryd.prog 99 = some [.nilFunc] := by kernel_rfl
theorem sr99 : tsrc Tryd.prog 99 = true := by kernel_rfl
theorem sz100 : tsz Tryd.prog 100 = some 1 := by kernel_rfl
theorem ag100 : tag Tryd.prog 100 = some none := by kernel_rfl
theorem zc100 : tzc Tryd.prog 100 = some [.nilFunc] := by kernel_rfl
theorem sr100 : tsrc Tryd.prog 100 = true := by kernel_rfl
theorem sz101 : tsz Tryd.prog 101 = some 1 := by kernel_rfl
theorem ag101 : tag Tryd.prog 101 = some none := by kernel_rfl
theorem zc101 : tzc Tryd.prog 101 = some [(.int .u64 0)] := by kernel_rfl
theorem sr101 : tsrc Tryd.prog 101 = false := by kernel_rfl
theorem sz102 : tsz Tryd.prog 102 = some 1 := by kernel_rfl
theorem ag102 : tag Tryd.prog 102 = some none := by kernel_rfl
theorem zc102 : tzc Tryd.prog 102 = some [.nilFunc] := by kernel_rfl
theorem sr102 : tsrc Tryd.prog 102 = true := by kernel_rfl
theorem sz103 : tsz Tryd.prog 103 = some 1 := by kernel_rfl
theorem ag103 : tag Tryd.prog 103 = some none := by kernel_rfl
theorem zc103 : tzc Tryd.prog 103 = some [.nilFunc] := by kernel_rfl
theorem sr103 : tsrc Tryd.prog 103 = true := by kernel_rfl
theorem sz104 : tsz Tryd.prog 104 = some 1 := by kernel_rfl
theorem ag104 : tag Tryd.prog 104 = some none := by kernel_rfl
theorem zc104 : tzc Tryd.prog 104 = some [.nilFunc] := by kernel_rfl
theorem sr104 : tsrc Tryd.prog 104 = true := by kernel_rfl
theorem sz105 : tsz Tryd.prog 105 = some 1 := by kernel_rfl
theorem ag105 : tag Tryd.prog 105 = some none := by kernel_rfl
theorem zc105 : tzc Tryd.prog 105 = some [.nilFunc] := by kernel_rfl
theorem sr105 : tsrc Tryd.prog 105 = true := by kernel_rfl
theorem sz106 : tsz Tryd.prog 106 = some 1 := by kernel_rfl
theorem ag106 : tag Tryd.prog 106 = some none := by kernel_rfl
theorem zc106 : tzc Tryd.prog 106 = some [.nilFunc] := by kernel_rfl
theorem sr106 : tsrc Tryd.prog 106 = true := by kernel_rfl
theorem sz107 : tsz Tryd.prog 107 = some 1 := by kernel_rfl
theorem ag107 : tag Tryd.prog 107 = some none := by kernel_rfl
theorem zc107 : tzc Tryd.prog 107 = some [.nilFunc] := by kernel_rfl
theorem sr107 : tsrc Tryd.prog 107 = true := by kernel_rfl
theorem sz108 : tsz Tryd.prog 108 = some 1 := by kernel_rfl
theorem ag108 : tag Tryd.prog 108 = some none := by kernel_rfl
theorem zc108 : tzc Tryd.prog 108 = some [.nilFunc] := by kernel_rfl
theorem sr108 : tsrc Tryd.prog 108 = true := by kernel_rfl
theorem sz109 : tsz Tryd.prog 109 = some 4 := by kernel_rfl
theorem ag109 : tag Tryd.prog 109 = some (some 4) := by kernel_rfl
theorem zc109 : tzc Tryd.prog 109 = some [(.ptr none), (.ptr none), (.ptr none), (.str ⟨#[]⟩)] := by kernel_rfl
theorem sr109 : tsrc Tryd.prog 109 = true := by kernel_rfl
theorem fd109_0 : tfd Tryd.prog 109 0 = some (0, 17) := by kernel_rfl
theorem fo109_0 : tfo Tryd.prog 109 0 = some 0 := by kernel_rfl
theorem fd109_1 : tfd Tryd.prog 109 1 = some (1, 17) := by kernel_rfl
theorem fo109_1 : tfo Tryd.prog 109 1 = some 1 := by kernel_rfl
theorem fd109_2 : tfd Tryd.prog 109 2 = some (2, 17) := by kernel_rfl
theorem fo109_2 : tfo Tryd.prog 109 2 = some 2 := by kernel_rfl
theorem fd109_3 : tfd Tryd.prog 109 3 = some (3, 9) := by kernel_rfl
theorem fo109_3 : tfo Tryd.prog 109 3 = some 3 := by kernel_rfl
theorem pl109 : tpl Tryd.prog 109 = some [(0, 1), (1, 1), (2, 1), (3, 1)] := by kernel_rfl
theorem bd109 (ps : List (Nat × AV)) (K : AV → Prop) : aBuild Tryd.prog 109 ps K = aBld (tpl Tryd.prog 109) (tzc Tryd.prog 109) ps K := aBuild_eq (by rw [pl109]; rfl) ps K
theorem sz110 : tsz Tryd.prog 110 = some 4 := by kernel_rfl
theorem ag110 : tag Tryd.prog 110 = some (some 4) := by kernel_rfl
theorem zc110 : tzc Tryd.prog 110 = some [(.ptr none), (.ptr none), (.ptr none), (.str ⟨#[]⟩)] := by kernel_rfl
theorem sr110 : tsrc Tryd.prog 110 = true := by kernel_rfl
theorem fd110_0 : tfd Tryd.prog 110 0 = some (0, 17) := by kernel_rfl
theorem fo110_0 : tfo Tryd.prog 110 0 = some 0 := by kernel_rfl
theorem fd110_1 : tfd Tryd.prog 110 1 = some (1, 17) := by kernel_rfl
theorem fo110_1 : tfo Tryd.prog 110 1 = some 1 := by kernel_rfl
theorem fd110_2 : tfd Tryd.prog 110 2 = some (2, 17) := by kernel_rfl
theorem fo110_2 : tfo Tryd.prog 110 2 = some 2 := by kernel_rfl
theorem fd110_3 : tfd Tryd.prog 110 3 = some (3, 9) := by kernel_rfl
theorem fo110_3 : tfo Tryd.prog 110 3 = some 3 := by kernel_rfl
theorem pl110 : tpl Tryd.prog 110 = some [(0, 1), (1, 1), (2, 1), (3, 1)] := by kernel_rfl
theorem bd110 (ps : List (Nat × AV)) (K : AV → Prop) : aBuild Tryd.prog 110 ps K = aBld (tpl Tryd.prog 110) (tzc Tryd.prog 110) ps K := aBuild_eq (by rw [pl110]; rfl) ps K
theorem ni110 : tni Tryd.prog 110 = true := by kernel_rfl
theorem ta110 : tas Tryd.prog 110 = some (.agg [(.ptr none), (.ptr none), (.ptr none), (.str ⟨#[]⟩)]) := by kernel_rfl
theorem sz111 : tsz Tryd.prog 111 = some 0 := by kernel_rfl
theorem ag111 : tag Tryd.prog 111 = some (some 0) := by kernel_rfl
theorem zc111 : tzc Tryd.prog 111 = some [] := by kernel_rfl
theorem sr111 : tsrc Tryd.prog 111 = true := by kernel_rfl
theorem es111 : teqS Tryd.prog 111 = none := by kernel_rfl
theorem el111 : tel Tryd.prog 111 = some (some 0, 1) := by kernel_rfl
theorem ln111 : tlen Tryd.prog 111 = some (.arr 0) := by kernel_rfl
theorem sz112 : tsz Tryd.prog 112 = some 0 := by kernel_rfl
theorem ag112 : tag Tryd.prog 112 = some (some 0) := by kernel_rfl
theorem zc112 : tzc Tryd.prog 112 = some [] := by kernel_rfl
theorem sr112 : tsrc Tryd.prog 112 = true := by kernel_rfl
theorem fd112_0 : tfd Tryd.prog 112 0 = some (0, 111) := by kernel_rfl
theorem pl112 : tpl Tryd.prog 112 = some [(0, 0)] := by kernel_rfl
theorem bd112 (ps : List (Nat × AV)) (K : AV → Prop) : aBuild Tryd.prog 112 ps K = aBld (tpl Tryd.prog 112) (tzc Tryd.prog 112) ps K := aBuild_eq (by rw [pl112]; rfl) ps K
theorem sz113 : tsz Tryd.prog 113 = some 0 := by kernel_rfl
theorem ag113 : tag Tryd.prog 113 = some (some 0) := by kernel_rfl
theorem zc113 : tzc Tryd.prog 113 = some [] := by kernel_rfl
theorem sr113 : tsrc Tryd.prog 113 = true := by kernel_rfl
theorem fd113_0 : tfd Tryd.prog 113 0 = some (0, 111) := by kernel_rfl
theorem pl113 : tpl Tryd.prog 113 = some [(0, 0)] := by kernel_rfl
theorem bd113 (ps : List (Nat × AV)) (K : AV → Prop) : aBuild Tryd.prog 113 ps K = aBld (tpl Tryd.prog 113) (tzc Tryd.prog 113) ps K := aBuild_eq (by rw [pl113]; rfl) ps K
theorem ni113 : tni Tryd.prog 113 = true := by kernel_rfl
theorem ta113 : tas Tryd.prog 113 = some (.agg []) := by kernel_rfl
theorem sz114 : tsz Tryd.prog 114 = some 1 := by kernel_rfl
theorem ag114 : tag Tryd.prog 114 = some none := by kernel_rfl
theorem zc114 : tzc Tryd.prog 114 = some [.nilFunc] := by kernel_rfl
theorem sr114 : tsrc Tryd.prog 114 = true := by kernel_rfl
theorem sz115 : tsz Tryd.prog 115 = some 1 := by kernel_rfl
theorem ag115 : tag Tryd.prog 115 = some none := by kernel_rfl
theorem zc115 : tzc Tryd.prog 115 = some [(.int .u32 0)] := by kernel_rfl
theorem sr115 : tsrc Tryd.prog 115 = false := by kernel_rfl
theorem sz116 : tsz Tryd.prog 116 = some 1 := by kernel_rfl
theorem ag116 : tag Tryd.prog 116 = some none := by kernel_rfl
theorem zc116 : tzc Tryd.prog 116 = some [(.int .u8 0)] := by kernel_rfl
theorem sr116 : tsrc Tryd.prog 116 = false := by kernel_rfl
theorem ni116 : tni Tryd.prog 116 = true := by kernel_rfl
theorem ta116 : tas Tryd.prog 116 = some (.int .u8 0) := by kernel_rfl
theorem sz117 : tsz Tryd.prog 117 = some 1 := by kernel_rfl
theorem ag117 : tag Tryd.prog 117 = some none := by kernel_rfl
theorem zc117 : tzc Tryd.prog 117 = some [(.int .u8 0)] := by kernel_rfl
theorem sr117 : tsrc Tryd.prog 117 = false := by kernel_rfl
theorem ni117 : tni Tryd.prog 117 = true := by kernel_rfl
theorem ta117 : tas Tryd.prog 117 = some (.int .u8 0) := by kernel_rfl
theorem sz118 : tsz Tryd.prog 118 = some 1 := by kernel_rfl
theorem ag118 : tag Tryd.prog 118 = some none := by kernel_rfl
theorem zc118 : tzc Tryd.prog 118 = some [.nilFunc] := by kernel_rfl
theorem sr118 : tsrc Tryd.prog 118 = true := by kernel_rfl
theorem sz119 : tsz Tryd.prog 119 = some 1 := by kernel_rfl
theorem ag119 : tag Tryd.prog 119 = some none := by kernel_rfl
theorem zc119 : tzc Tryd.prog 119 = some [(.ptr none)] := by kernel_rfl
theorem sr119 : tsrc Tryd.prog 119 = true := by kernel_rfl
theorem ni119 : tni Tryd.prog 119 = true := by kernel_rfl
theorem ta119 : tas Tryd.prog 119 = some (.ptr none) := by kernel_rfl
theorem sz120 : tsz Tryd.prog 120 = some 1 := by kernel_rfl
theorem ag120 : tag Tryd.prog 120 = some none := by kernel_rfl
theorem zc120 : tzc Tryd.prog 120 = some [(.int .i32 0)] := by kernel_rfl
theorem sr120 : tsrc Tryd.prog 120 = false := by kernel_rfl
theorem ni120 : tni Tryd.prog 120 = true := by kernel_rfl
theorem ta120 : tas Tryd.prog 120 = some (.int .i32 0) := by kernel_rfl
theorem sz121 : tsz Tryd.prog 121 = some 1 := by kernel_rfl
theorem ag121 : tag Tryd.prog 121 = some none := by kernel_rfl
theorem zc121 : tzc Tryd.prog 121 = some [(.int .i32 0)] := by kernel_rfl
theorem sr121 : tsrc Tryd.prog 121 = false := by kernel_rfl
theorem ni121 : tni Tryd.prog 121 = true := by kernel_rfl
theorem ta121 : tas Tryd.prog 121 = some (.int .i32 0) := by kernel_rfl
theorem sz122 : tsz Tryd.prog 122 = some 11 := by kernel_rfl
theorem ag122 : tag Tryd.prog 122 = some (some 11) := by kernel_rfl
theorem zc122 : tzc Tryd.prog 122 = some [(.int .u64 0), (.int .u64 0), (.int .u32 0), (.int .u8 0), (.int .u8 0), (.int .u8 0), (.int .u8 0), .nilFunc, (.ptr none), (.int .i32 0), (.int .i32 0)] := by kernel_rfl
theorem sr122 : tsrc Tryd.prog 122 = true := by kernel_rfl
theorem fd122_0 : tfd Tryd.prog 122 0 = some (0, 12) := by kernel_rfl
theorem fo122_0 : tfo Tryd.prog 122 0 = some 0 := by kernel_rfl
theorem fd122_1 : tfd Tryd.prog 122 1 = some (1, 12) := by kernel_rfl
theorem fo122_1 : tfo Tryd.prog 122 1 = some 1 := by kernel_rfl
theorem fd122_2 : tfd Tryd.prog 122 2 = some (2, 115) := by kernel_rfl
theorem fo122_2 : tfo Tryd.prog 122 2 = some 2 := by kernel_rfl
theorem fd122_3 : tfd Tryd.prog 122 3 = some (3, 116) := by kernel_rfl
theorem fo122_3 : tfo Tryd.prog 122 3 = some 3 := by kernel_rfl
theorem fd122_4 : tfd Tryd.prog 122 4 = some (4, 5) := by kernel_rfl
theorem fo122_4 : tfo Tryd.prog 122 4 = some 4 := by kernel_rfl
theorem fd122_5 : tfd Tryd.prog 122 5 = some (5, 5) := by kernel_rfl
theorem fo122_5 : tfo Tryd.prog 122 5 = some 5 := by kernel_rfl
theorem fd122_6 : tfd Tryd.prog 122 6 = some (6, 117) := by kernel_rfl
theorem fo122_6 : tfo Tryd.prog 122 6 = some 6 := by kernel_rfl
theorem fd122_7 : tfd Tryd.prog 122 7 = some (7, 118) := by kernel_rfl
theorem fo122_7 : tfo Tryd.prog 122 7 = some 7 := by kernel_rfl
theorem fd122_8 : tfd Tryd.prog 122 8 = some (8, 119) := by kernel_rfl
theorem fo122_8 : tfo Tryd.prog 122 8 = some 8 := by kernel_rfl
theorem fd122_9 : tfd Tryd.prog 122 9 = some (9, 120) := by kernel_rfl
theorem fo122_9 : tfo Tryd.prog 122 9 = some 9 := by kernel_rfl
theorem fd122_10 : tfd Tryd.prog 122 10 = some (10, 121) := by kernel_rfl
theorem fo122_10 : tfo Tryd.prog 122 10 = some 10 := by kernel_rfl
theorem pl122 : tpl Tryd.prog 122 = some [(0, 1), (1, 1), (2, 1), (3, 1), (4, 1), (5, 1), (6, 1), (7, 1), (8, 1), (9, 1), (10, 1)] := by kernel_rfl
theorem bd122 (ps : List (Nat × AV)) (K : AV → Prop) : aBuild Tryd.prog 122 ps K = aBld (tpl Tryd.prog 122) (tzc Tryd.prog 122) ps K := aBuild_eq (by rw [pl122]; rfl) ps K
theorem sz123 : tsz Tryd.prog 123 = some 11 := by kernel_rfl
theorem ag123 : tag Tryd.prog 123 = some (some 11) := by kernel_rfl
theorem zc123 : tzc Tryd.prog 123 = some [(.int .u64 0), (.int .u64 0), (.int .u32 0), (.int .u8 0), (.int .u8 0), (.int .u8 0), (.int .u8 0), .nilFunc, (.ptr none), (.int .i32 0), (.int .i32 0)] := by kernel_rfl
theorem sr123 : tsrc Tryd.prog 123 = true := by kernel_rfl
theorem fd123_0 : tfd Tryd.prog 123 0 = some (0, 12) := by kernel_rfl
theorem fo123_0 : tfo Tryd.prog 123 0 = some 0 := by kernel_rfl
theorem fd123_1 : tfd Tryd.prog 123 1 = some (1, 12) := by kernel_rfl
theorem fo123_1 : tfo Tryd.prog 123 1 = some 1 := by kernel_rfl
theorem fd123_2 : tfd Tryd.prog 123 2 = some (2, 115) := by kernel_rfl
theorem fo123_2 : tfo Tryd.prog 123 2 = some 2 := by kernel_rfl
theorem fd123_3 : tfd Tryd.prog 123 3 = some (3, 116) := by kernel_rfl
theorem fo123_3 : tfo Tryd.prog 123 3 = some 3 := by kernel_rfl
theorem fd123_4 : tfd Tryd.prog 123 4 = some (4, 5) := by kernel_rfl
theorem fo123_4 : tfo Tryd.prog 123 4 = some 4 := by kernel_rfl
theorem fd123_5 : tfd Tryd.prog 123 5 = some (5, 5) := by kernel_rfl
theorem fo123_5 : tfo Tryd.prog 123 5 = some 5 := by kernel_rfl
theorem fd123_6 : tfd Tryd.prog 123 6 = some (6, 117) := by kernel_rfl
theorem fo123_6 : tfo Tryd.prog 123 6 = some 6 := by kernel_rfl
theorem fd123_7 : tfd Tryd.prog 123 7 = some (7, 118) := by kernel_rfl
theorem fo123_7 : tfo Tryd.prog 123 7 = some 7 := by kernel_rfl
theorem fd123_8 : tfd Tryd.prog 123 8 = some (8, 119) := by kernel_rfl
theorem fo123_8 : tfo Tryd.prog 123 8 = some 8 := by kernel_rfl
theorem fd123_9 : tfd Tryd.prog 123 9 = some (9, 120) := by kernel_rfl
theorem fo123_9 : tfo Tryd.prog 123 9 = some 9 := by kernel_rfl
theorem fd123_10 : tfd Tryd.prog 123 10 = some (10, 121) := by kernel_rfl
theorem fo123_10 : tfo Tryd.prog 123 10 = some 10 := by kernel_rfl
theorem pl123 : tpl Tryd.prog 123 = some [(0, 1), (1, 1), (2, 1), (3, 1), (4, 1), (5, 1), (6, 1), (7, 1), (8, 1), (9, 1), (10, 1)] := by kernel_rfl
theorem bd123 (ps : List (Nat × AV)) (K : AV → Prop) : aBuild Tryd.prog 123 ps K = aBld (tpl Tryd.prog 123) (tzc Tryd.prog 123) ps K := aBuild_eq (by rw [pl123]; rfl) ps K
theorem ni123 : tni Tryd.prog 123 = true := by kernel_rfl
theorem ta123 : tas Tryd.prog 123 = some (.agg [(.int .u64 0), (.int .u64 0), (.int .u32 0), (.int .u8 0), (.int .u8 0), (.int .u8 0), (.int .u8 0), .nilFunc, (.ptr none), (.int .i32 0), (.int .i32 0)]) := by kernel_rfl
theorem sz124 : tsz Tryd.prog 124 = some 1 := by kernel_rfl
theorem ag124 : tag Tryd.prog 124 = some none := by kernel_rfl
theorem zc124 : tzc Tryd.prog 124 = some [(.ptr none)] := by kernel_rfl
theorem sr124 : tsrc Tryd.prog 124 = true := by kernel_rfl
theorem ar61 : tarr Tryd.prog 61 = some (2, 1) := by kernel_rfl
theorem ia61 (cs : List AV) (k : IntKind) (n : Int) (K : AV → Prop) : aIndex Tryd.prog 61 (.agg cs) (.int k n) K = (0 ≤ n ∧ n < 2 ∧ aLd Tryd.prog 9 (cs.drop (n.toNat * 1)) K) := aIndex_arr (by kernel_rfl) (by kernel_rfl) cs k n K
theorem ba61 (ps : List (Nat × AV)) (K : AV → Prop) : aBuild Tryd.prog 61 ps K = aBldA (tarr Tryd.prog 61) (tzc Tryd.prog 61) ps K := aBuildA_eq (by rw [ar61]; rfl) ps K
theorem ar66 : tarr Tryd.prog 66 = some (5, 1) := by kernel_rfl
theorem ia66 (cs : List AV) (k : IntKind) (n : Int) (K : AV → Prop) : aIndex Tryd.prog 66 (.agg cs) (.int k n) K = (0 ≤ n ∧ n < 5 ∧ aLd Tryd.prog 65 (cs.drop (n.toNat * 1)) K) := aIndex_arr (by kernel_rfl) (by kernel_rfl) cs k n K
theorem ba66 (ps : List (Nat × AV)) (K : AV → Prop) : aBuild Tryd.prog 66 ps K = aBldA (tarr Tryd.prog 66) (tzc Tryd.prog 66) ps K := aBuildA_eq (by rw [ar66]; rfl) ps K
theorem ar94 : tarr Tryd.prog 94 = some (5, 1) := by kernel_rfl
theorem ia94 (cs : List AV) (k : IntKind) (n : Int) (K : AV → Prop) : aIndex Tryd.prog 94 (.agg cs) (.int k n) K = (0 ≤ n ∧ n < 5 ∧ aLd Tryd.prog 47 (cs.drop (n.toNat * 1)) K) := aIndex_arr (by kernel_rfl) (by kernel_rfl) cs k n K
theorem ba94 (ps : List (Nat × AV)) (K : AV → Prop) : aBuild Tryd.prog 94 ps K = aBldA (tarr Tryd.prog 94) (tzc Tryd.prog 94) ps K := aBuildA_eq (by rw [ar94]; rfl) ps K
theorem ar111 : tarr Tryd.prog 111 = some (0, 1) := by kernel_rfl
theorem ia111 (cs : List AV) (k : IntKind) (n : Int) (K : AV → Prop) : aIndex Tryd.prog 111 (.agg cs) (.int k n) K = (0 ≤ n ∧ n < 0 ∧ aLd Tryd.prog 16 (cs.drop (n.toNat * 1)) K) := aIndex_arr (by kernel_rfl) (by kernel_rfl) cs k n K
theorem ba111 (ps : List (Nat × AV)) (K : AV → Prop) : aBuild Tryd.prog 111 ps K = aBldA (tarr Tryd.prog 111) (tzc Tryd.prog 111) ps K := aBuildA_eq (by rw [ar111]; rfl) ps K
theorem cv2_2 : tcv Tryd.prog 2 2 = some (some .i64) := by kernel_rfl
theorem cv2_3 : tcv Tryd.prog 2 3 = some (some .i64) := by kernel_rfl
theorem cv2_5 : tcv Tryd.prog 2 5 = some (some .u8) := by kernel_rfl
theorem cv2_6 : tcv Tryd.prog 2 6 = some (some .u8) := by kernel_rfl
theorem cv2_12 : tcv Tryd.prog 2 12 = some (some .u64) := by kernel_rfl
theorem cv2_21 : tcv Tryd.prog 2 21 = some (some .i32) := by kernel_rfl
theorem cv2_33 : tcv Tryd.prog 2 33 = some (some .i64) := by kernel_rfl
theorem cv2_101 : tcv Tryd.prog 2 101 = some (some .u64) := by kernel_rfl
theorem cv2_115 : tcv Tryd.prog 2 115 = some (some .u32) := by kernel_rfl
theorem cv2_116 : tcv Tryd.prog 2 116 = some (some .u8) := by kernel_rfl
theorem cv2_117 : tcv Tryd.prog 2 117 = some (some .u8) := by kernel_rfl
theorem cv2_120 : tcv Tryd.prog 2 120 = some (some .i32) := by kernel_rfl
theorem cv2_121 : tcv Tryd.prog 2 121 = some (some .i32) := by kernel_rfl
theorem cv3_2 : tcv Tryd.prog 3 2 = some (some .i64) := by kernel_rfl
theorem cv3_3 : tcv Tryd.prog 3 3 = some (some .i64) := by kernel_rfl
theorem cv3_5 : tcv Tryd.prog 3 5 = some (some .u8) := by kernel_rfl
theorem cv3_6 : tcv Tryd.prog 3 6 = some (some .u8) := by kernel_rfl
theorem cv3_12 : tcv Tryd.prog 3 12 = some (some .u64) := by kernel_rfl
theorem cv3_21 : tcv Tryd.prog 3 21 = some (some .i32) := by kernel_rfl
theorem cv3_33 : tcv Tryd.prog 3 33 = some (some .i64) := by kernel_rfl
theorem cv3_101 : tcv Tryd.prog 3 101 = some (some .u64) := by kernel_rfl
theorem cv3_115 : tcv Tryd.prog 3 115 = some (some .u32) := by kernel_rfl
theorem cv3_116 : tcv Tryd.prog 3 116 = some (some .u8) := by kernel_rfl
theorem cv3_117 : tcv Tryd.prog 3 117 = some (some .u8) := by kernel_rfl
theorem cv3_120 : tcv Tryd.prog 3 120 = some (some .i32) := by kernel_rfl
theorem cv3_121 : tcv Tryd.prog 3 121 = some (some .i32) := by kernel_rfl
theorem cv5_2 : tcv Tryd.prog 5 2 = some (some .i64) := by kernel_rfl
theorem cv5_3 : tcv Tryd.prog 5 3 = some (some .i64) := by kernel_rfl
theorem cv5_5 : tcv Tryd.prog 5 5 = some (some .u8) := by kernel_rfl
theorem cv5_6 : tcv Tryd.prog 5 6 = some (some .u8) := by kernel_rfl
theorem cv5_12 : tcv Tryd.prog 5 12 = some (some .u64) := by kernel_rfl
theorem cv5_21 : tcv Tryd.prog 5 21 = some (some .i32) := by kernel_rfl
theorem cv5_33 : tcv Tryd.prog 5 33 = some (some .i64) := by kernel_rfl
theorem cv5_101 : tcv Tryd.prog 5 101 = some (some .u64) := by kernel_rfl
theorem cv5_115 : tcv Tryd.prog 5 115 = some (some .u32) := by kernel_rfl
theorem cv5_116 : tcv Tryd.prog 5 116 = some (some .u8) := by kernel_rfl
theorem cv5_117 : tcv Tryd.prog 5 117 = some (some .u8) := by kernel_rfl
theorem cv5_120 : tcv Tryd.prog 5 120 = some (some .i32) := by kernel_rfl
theorem cv5_121 : tcv Tryd.prog 5 121 = some (some .i32) := by kernel_rfl
theorem cv6_2 : tcv Tryd.prog 6 2 = some (some .i64) := by kernel_rfl
theorem cv6_3 : tcv Tryd.prog 6 3 = some (some .i64) := by kernel_rfl
theorem cv6_5 : tcv Tryd.prog 6 5 = some (some .u8) := by kernel_rfl
theorem cv6_6 : tcv Tryd.prog 6 6 = some (some .u8) := by kernel_rfl
theorem cv6_12 : tcv Tryd.prog 6 12 = some (some .u64) := by kernel_rfl
theorem cv6_21 : tcv Tryd.prog 6 21 = some (some .i32) := by kernel_rfl
theorem cv6_33 : tcv Tryd.prog 6 33 = some (some .i64) := by kernel_rfl
theorem cv6_101 : tcv Tryd.prog 6 101 = some (some .u64) := by kernel_rfl
theorem cv6_115 : tcv Tryd.prog 6 115 = some (some .u32) := by kernel_rfl
theorem cv6_116 : tcv Tryd.prog 6 116 = some (some .u8) := by kernel_rfl
theorem cv6_117 : tcv Tryd.prog 6 117 = some (some .u8) := by kernel_rfl
theorem cv6_120 : tcv Tryd.prog 6 120 = some (some .i32) := by kernel_rfl
theorem cv6_121 : tcv Tryd.prog 6 121 = some (some .i32) := by kernel_rfl
theorem cv9_9 : tcv Tryd.prog 9 9 = some none := by kernel_rfl
theorem cv9_10 : tcv Tryd.prog 9 10 = some none := by kernel_rfl
theorem cv9_11 : tcv Tryd.prog 9 11 = some none := by kernel_rfl
theorem cv10_9 : tcv Tryd.prog 10 9 = some none := by kernel_rfl
theorem cv10_10 : tcv Tryd.prog 10 10 = some none := by kernel_rfl
theorem cv10_11 : tcv Tryd.prog 10 11 = some none := by kernel_rfl
theorem cv11_9 : tcv Tryd.prog 11 9 = some none := by kernel_rfl
theorem cv11_10 : tcv Tryd.prog 11 10 = some none := by kernel_rfl
theorem cv11_11 : tcv Tryd.prog 11 11 = some none := by kernel_rfl
theorem cv12_2 : tcv Tryd.prog 12 2 = some (some .i64) := by kernel_rfl
theorem cv12_3 : tcv Tryd.prog 12 3 = some (some .i64) := by kernel_rfl
theorem cv12_5 : tcv Tryd.prog 12 5 = some (some .u8) := by kernel_rfl
theorem cv12_6 : tcv Tryd.prog 12 6 = some (some .u8) := by kernel_rfl
theorem cv12_12 : tcv Tryd.prog 12 12 = some (some .u64) := by kernel_rfl
theorem cv12_21 : tcv Tryd.prog 12 21 = some (some .i32) := by kernel_rfl
theorem cv12_33 : tcv Tryd.prog 12 33 = some (some .i64) := by kernel_rfl
theorem cv12_101 : tcv Tryd.prog 12 101 = some (some .u64) := by kernel_rfl
theorem cv12_115 : tcv Tryd.prog 12 115 = some (some .u32) := by kernel_rfl
theorem cv12_116 : tcv Tryd.prog 12 116 = some (some .u8) := by kernel_rfl
theorem cv12_117 : tcv Tryd.prog 12 117 = some (some .u8) := by kernel_rfl
theorem cv12_120 : tcv Tryd.prog 12 120 = some (some .i32) := by kernel_rfl
theorem cv12_121 : tcv Tryd.prog 12 121 = some (some .i32) := by kernel_rfl
theorem cv21_2 : tcv Tryd.prog 21 2 = some (some .i64) := by kernel_rfl
theorem cv21_3 : tcv Tryd.prog 21 3 = some (some .i64) := by kernel_rfl
theorem cv21_5 : tcv Tryd.prog 21 5 = some (some .u8) := by kernel_rfl
theorem cv21_6 : tcv Tryd.prog 21 6 = some (some .u8) := by kernel_rfl
theorem cv21_12 : tcv Tryd.prog 21 12 = some (some .u64) := by kernel_rfl
theorem cv21_21 : tcv Tryd.prog 21 21 = some (some .i32) := by kernel_rfl
theorem cv21_33 : tcv Tryd.prog 21 33 = some (some .i64) := by kernel_rfl
theorem cv21_101 : tcv Tryd.prog 21 101 = some (some .u64) := by kernel_rfl
theorem cv21_115 : tcv Tryd.prog 21 115 = some (some .u32) := by kernel_rfl
theorem cv21_116 : tcv Tryd.prog 21 116 = some (some .u8) := by kernel_rfl
theorem cv21_117 : tcv Tryd.prog 21 117 = some (some .u8) := by kernel_rfl
theorem cv21_120 : tcv Tryd.prog 21 120 = some (some .i32) := by kernel_rfl
theorem cv21_121 : tcv Tryd.prog 21 121 = some (some .i32) := by kernel_rfl
theorem cv33_2 : tcv Tryd.prog 33 2 = some (some .i64) := by kernel_rfl
theorem cv33_3 : tcv Tryd.prog 33 3 = some (some .i64) := by kernel_rfl
theorem cv33_5 : tcv Tryd.prog 33 5 = some (some .u8) := by kernel_rfl
theorem cv33_6 : tcv Tryd.prog 33 6 = some (some .u8) := by kernel_rfl
theorem cv33_12 : tcv Tryd.prog 33 12 = some (some .u64) := by kernel_rfl
theorem cv33_21 : tcv Tryd.prog 33 21 = some (some .i32) := by kernel_rfl
theorem cv33_33 : tcv Tryd.prog 33 33 = some (some .i64) := by kernel_rfl
theorem cv33_101 : tcv Tryd.prog 33 101 = some (some .u64) := by kernel_rfl
theorem cv33_115 : tcv Tryd.prog 33 115 = some (some .u32) := by kernel_rfl
theorem cv33_116 : tcv Tryd.prog 33 116 = some (some .u8) := by kernel_rfl
theorem cv33_117 : tcv Tryd.prog 33 117 = some (some .u8) := by kernel_rfl
theorem cv33_120 : tcv Tryd.prog 33 120 = some (some .i32) := by kernel_rfl
theorem cv33_121 : tcv Tryd.prog 33 121 = some (some .i32) := by kernel_rfl
theorem cv101_2 : tcv Tryd.prog 101 2 = some (some .i64) := by kernel_rfl
theorem cv101_3 : tcv Tryd.prog 101 3 = some (some .i64) := by kernel_rfl
theorem cv101_5 : tcv Tryd.prog 101 5 = some (some .u8) := by kernel_rfl
theorem cv101_6 : tcv Tryd.prog 101 6 = some (some .u8) := by kernel_rfl
theorem cv101_12 : tcv Tryd.prog 101 12 = some (some .u64) := by kernel_rfl
theorem cv101_21 : tcv Tryd.prog 101 21 = some (some .i32) := by kernel_rfl
theorem cv101_33 : tcv Tryd.prog 101 33 = some (some .i64) := by kernel_rfl
theorem cv101_101 : tcv Tryd.prog 101 101 = some (some .u64) := by kernel_rfl
theorem cv101_115 : tcv Tryd.prog 101 115 = some (some .u32) := by kernel_rfl
theorem cv101_116 : tcv Tryd.prog 101 116 = some (some .u8) := by kernel_rfl
theorem cv101_117 : tcv Tryd.prog 101 117 = some (some .u8) := by kernel_rfl
theorem cv101_120 : tcv Tryd.prog 101 120 = some (some .i32) := by kernel_rfl
theorem cv101_121 : tcv Tryd.prog 101 121 = some (some .i32) := by kernel_rfl
theorem cv115_2 : tcv Tryd.prog 115 2 = some (some .i64) := by kernel_rfl
theorem cv115_3 : tcv Tryd.prog 115 3 = some (some .i64) := by kernel_rfl
theorem cv115_5 : tcv Tryd.prog 115 5 = some (some .u8) := by kernel_rfl
theorem cv115_6 : tcv Tryd.prog 115 6 = some (some .u8) := by kernel_rfl
theorem cv115_12 : tcv Tryd.prog 115 12 = some (some .u64) := by kernel_rfl
theorem cv115_21 : tcv Tryd.prog 115 21 = some (some .i32) := by kernel_rfl
theorem cv115_33 : tcv Tryd.prog 115 33 = some (some .i64) := by kernel_rfl
theorem cv115_101 : tcv Tryd.prog 115 101 = some (some .u64) := by kernel_rfl
theorem cv115_115 : tcv Tryd.prog 115 115 = some (some .u32) := by kernel_rfl
theorem cv115_116 : tcv Tryd.prog 115 116 = some (some .u8) := by kernel_rfl
theorem cv115_117 : tcv Tryd.prog 115 117 = some (some .u8) := by kernel_rfl
theorem cv115_120 : tcv Tryd.prog 115 120 = some (some .i32) := by kernel_rfl
theorem cv115_121 : tcv Tryd.prog 115 121 = some (some .i32) := by kernel_rfl
theorem cv116_2 : tcv Tryd.prog 116 2 = some (some .i64) := by kernel_rfl
theorem cv116_3 : tcv Tryd.prog 116 3 = some (some .i64) := by kernel_rfl
theorem cv116_5 : tcv Tryd.prog 116 5 = some (some .u8) := by kernel_rfl
theorem cv116_6 : tcv Tryd.prog 116 6 = some (some .u8) := by kernel_rfl
theorem cv116_12 : tcv Tryd.prog 116 12 = some (some .u64) := by kernel_rfl
theorem cv116_21 : tcv Tryd.prog 116 21 = some (some .i32) := by kernel_rfl
theorem cv116_33 : tcv Tryd.prog 116 33 = some (some .i64) := by kernel_rfl
theorem cv116_101 : tcv Tryd.prog 116 101 = some (some .u64) := by kernel_rfl
theorem cv116_115 : tcv Tryd.prog 116 115 = some (some .u32) := by kernel_rfl
theorem cv116_116 : tcv Tryd.prog 116 116 = some (some .u8) := by kernel_rfl
theorem cv116_117 : tcv Tryd.prog 116 117 = some (some .u8) := by kernel_rfl
theorem cv116_120 : tcv Tryd.prog 116 120 = some (some .i32) := by kernel_rfl
theorem cv116_121 : tcv Tryd.prog 116 121 = some (some .i32) := by kernel_rfl
theorem cv117_2 : tcv Tryd.prog 117 2 = some (some .i64) := by kernel_rfl
theorem cv117_3 : tcv Tryd.prog 117 3 = some (some .i64) := by kernel_rfl
theorem cv117_5 : tcv Tryd.prog 117 5 = some (some .u8) := by kernel_rfl
theorem cv117_6 : tcv Tryd.prog 117 6 = some (some .u8) := by kernel_rfl
theorem cv117_12 : tcv Tryd.prog 117 12 = some (some .u64) := by kernel_rfl
theorem cv117_21 : tcv Tryd.prog 117 21 = some (some .i32) := by kernel_rfl
theorem cv117_33 : tcv Tryd.prog 117 33 = some (some .i64) := by kernel_rfl
theorem cv117_101 : tcv Tryd.prog 117 101 = some (some .u64) := by kernel_rfl
theorem cv117_115 : tcv Tryd.prog 117 115 = some (some .u32) := by kernel_rfl
theorem cv117_116 : tcv Tryd.prog 117 116 = some (some .u8) := by kernel_rfl
theorem cv117_117 : tcv Tryd.prog 117 117 = some (some .u8) := by kernel_rfl
theorem cv117_120 : tcv Tryd.prog 117 120 = some (some .i32) := by kernel_rfl
theorem cv117_121 : tcv Tryd.prog 117 121 = some (some .i32) := by kernel_rfl
theorem cv120_2 : tcv Tryd.prog 120 2 = some (some .i64) := by kernel_rfl
theorem cv120_3 : tcv Tryd.prog 120 3 = some (some .i64) := by kernel_rfl
theorem cv120_5 : tcv Tryd.prog 120 5 = some (some .u8) := by kernel_rfl
theorem cv120_6 : tcv Tryd.prog 120 6 = some (some .u8) := by kernel_rfl
theorem cv120_12 : tcv Tryd.prog 120 12 = some (some .u64) := by kernel_rfl
theorem cv120_21 : tcv Tryd.prog 120 21 = some (some .i32) := by kernel_rfl
theorem cv120_33 : tcv Tryd.prog 120 33 = some (some .i64) := by kernel_rfl
theorem cv120_101 : tcv Tryd.prog 120 101 = some (some .u64) := by kernel_rfl
theorem cv120_115 : tcv Tryd.prog 120 115 = some (some .u32) := by kernel_rfl
theorem cv120_116 : tcv Tryd.prog 120 116 = some (some .u8) := by kernel_rfl
theorem cv120_117 : tcv Tryd.prog 120 117 = some (some .u8) := by kernel_rfl
theorem cv120_120 : tcv Tryd.prog 120 120 = some (some .i32) := by kernel_rfl
theorem cv120_121 : tcv Tryd.prog 120 121 = some (some .i32) := by kernel_rfl
theorem cv121_2 : tcv Tryd.prog 121 2 = some (some .i64) := by kernel_rfl
theorem cv121_3 : tcv Tryd.prog 121 3 = some (some .i64) := by kernel_rfl
theorem cv121_5 : tcv Tryd.prog 121 5 = some (some .u8) := by kernel_rfl
theorem cv121_6 : tcv Tryd.prog 121 6 = some (some .u8) := by kernel_rfl
theorem cv121_12 : tcv Tryd.prog 121 12 = some (some .u64) := by kernel_rfl
theorem cv121_21 : tcv Tryd.prog 121 21 = some (some .i32) := by kernel_rfl
theorem cv121_33 : tcv Tryd.prog 121 33 = some (some .i64) := by kernel_rfl
theorem cv121_101 : tcv Tryd.prog 121 101 = some (some .u64) := by kernel_rfl
theorem cv121_115 : tcv Tryd.prog 121 115 = some (some .u32) := by kernel_rfl
theorem cv121_116 : tcv Tryd.prog 121 116 = some (some .u8) := by kernel_rfl
theorem cv121_117 : tcv Tryd.prog 121 117 = some (some .u8) := by kernel_rfl
theorem cv121_120 : tcv Tryd.prog 121 120 = some (some .i32) := by kernel_rfl
theorem cv121_121 : tcv Tryd.prog 121 121 = some (some .i32) := by kernel_rfl
attribute [go_sem] sz1 ag1 zc1 sr1 sz2 ag2 zc2 sr2 sz3 ag3 zc3 sr3 sz4 ag4 zc4 sr4 bo4 sz5 ag5 zc5 sr5 sz6 ag6 zc6 sr6 ni6 ta6 sz7 ag7 zc7 sr7 fd7_0 fo7_0 fd7_1 fo7_1 fd7_2 fo7_2 fd7_3 fo7_3 pl7 bd7 sz8 ag8 zc8 sr8 fd8_0 fo8_0 fd8_1 fo8_1 fd8_2 fo8_2 fd8_3 fo8_3 pl8 bd8 ni8 ta8 sz9 ag9 zc9 sr9 cu9 ln9 sz10 ag10 zc10 sr10 ni10 ta10 cu10 ln10 sz11 ag11 zc11 sr11 ni11 ta11 cu11 ln11 sz12 ag12 zc12 sr12 sz13 ag13 zc13 sr13 fd13_0 fo13_0 fd13_1 fo13_1 pl13 bd13 sz14 ag14 zc14 sr14 fd14_0 fo14_0 fd14_1 fo14_1 pl14 bd14 ni14 ta14 sz15 ag15 zc15 sr15 ni15 ta15 sz16 ag16 zc16 sr16 ni16 ta16 sz17 ag17 zc17 sr17 ni17 ta17 sz18 ag18 zc18 sr18 fd18_0 fo18_0 pl18 bd18 sz19 ag19 zc19 sr19 fd19_0 fo19_0 pl19 bd19 ni19 ta19 sz20 ag20 zc20 sr20 if20 sz21 ag21 zc21 sr21 sz22 ag22 zc22 sr22 el22 cu22 ap22 bs22 ms22 mm22 mc22 mb22 ma22 ae22_22 ln22 sz23 ag23 zc23 sr23 el23 cu23 ap23 bs23 ms23 mm23 mc23 mb23 ma23 ae23_23 ln23 sz24 ag24 zc24 sr24 el24 cu24 ap24 bs24 ms24 mm24 mc24 mb24 ma24 ae24_24 ln24 sz25 ag25 zc25 sr25 fd25_0 fo25_0 fd25_1 fo25_1 fd25_2 fo25_2 fd25_3 fo25_3 fd25_4 fo25_4 pl25 bd25 sz26 ag26 zc26 sr26 fd26_0 fo26_0 fd26_1 fo26_1 fd26_2 fo26_2 fd26_3 fo26_3 fd26_4 fo26_4 pl26 bd26 ni26 ta26 sz27 ag27 zc27 sr27 fd27_0 fo27_0 fd27_1 fo27_1 fd27_2 fo27_2 fd27_3 fo27_3 fd27_4 fo27_4 fd27_5 fo27_5 pl27 bd27 sz28 ag28 zc28 sr28 fd28_0 fo28_0 fd28_1 fo28_1 fd28_2 fo28_2 fd28_3 fo28_3 fd28_4 fo28_4 fd28_5 fo28_5 pl28 bd28 ni28 ta28 sz29 ag29 zc29 sr29 el29 cu29 ap29 bs29 ms29 mm29 mc29 mb29 ma29 ae29_29 ln29 sz30 ag30 zc30 sr30 el30 cu30 ap30 bs30 ms30 mm30 mc30 mb30 ma30 ae30_30 ln30 sz31 ag31 zc31 sr31 sz32 ag32 zc32 sr32 sz33 ag33 zc33 sr33 ni33 ta33 sz35 ag35 zc35 sr35 sz36 ag36 zc36 sr36 sz37 ag37 zc37 sr37 sz38 ag38 zc38 sr38 sz39 ag39 zc39 sr39 fd39_0 fo39_0 fd39_1 fo39_1 fd39_2 fo39_2 fd39_3 fo39_3 pl39 bd39 sz40 ag40 zc40 sr40 fd40_0 fo40_0 fd40_1 fo40_1 fd40_2 fo40_2 fd40_3 fo40_3 pl40 bd40 ni40 ta40 sz41 ag41 zc41 sr41 sz42 ag42 zc42 sr42 el42 cu42 ap42 bs42 ms42 mm42 mc42 mb42 ma42 ae42_42 ln42 sz43 ag43 zc43 sr43 fd43_0 fo43_0 fd43_1 fo43_1 pl43 bd43 sz44 ag44 zc44 sr44 fd44_0 fo44_0 fd44_1 fo44_1 pl44 bd44 es44 ni44 ta44 sz45 ag45 zc45 sr45 sz46 ag46 zc46 sr46 sz47 ag47 zc47 sr47 sz48 ag48 zc48 sr48 sz49 ag49 zc49 sr49 sz50 ag50 zc50 sr50 sz51 ag51 zc51 sr51 sz52 ag52 zc52 sr52 sz53 ag53 zc53 sr53 sz54 ag54 zc54 sr54 sz55 ag55 zc55 sr55 sz56 ag56 zc56 sr56 sz57 ag57 zc57 sr57 sz58 ag58 zc58 sr58 fd58_0 fo58_0 fd58_1 fo58_1 fd58_2 fo58_2 pl58 bd58 sz59 ag59 zc59 sr59 fd59_0 fo59_0 fd59_1 fo59_1 fd59_2 fo59_2 pl59 bd59 ni59 ta59 sz60 ag60 zc60 sr60 sz61 ag61 zc61 sr61 es61 el61 ln61 sz63 ag63 zc63 sr63 sz64 ag64 zc64 sr64 sz65 ag65 zc65 sr65 sz66 ag66 zc66 sr66 es66 el66 ln66 sz67 ag67 zc67 sr67 sz68 ag68 zc68 sr68 sz69 ag69 zc69 sr69 sz70 ag70 zc70 sr70 sz71 ag71 zc71 sr71 sz72 ag72 zc72 sr72 sz73 ag73 zc73 sr73 sz74 ag74 zc74 sr74 sz75 ag75 zc75 sr75 fd75_0 fo75_0 fd75_1 fo75_1 pl75 bd75 sz76 ag76 zc76 sr76 fd76_0 fo76_0 fd76_1 fo76_1 pl76 bd76 ni76 ta76 sz77 ag77 zc77 sr77 sz78 ag78 zc78 sr78 sz79 ag79 zc79 sr79 sz80 ag80 zc80 sr80 sz81 ag81 zc81 sr81 sz82 ag82 zc82 sr82 sz83 ag83 zc83 sr83 sz84 ag84 zc84 sr84 sz85 ag85 zc85 sr85 fd85_0 fo85_0 pl85 bd85 sz86 ag86 zc86 sr86 fd86_0 fo86_0 pl86 bd86 es86 ni86 ta86 sz88 ag88 zc88 sr88 sz89 ag89 zc89 sr89 sz90 ag90 zc90 sr90 sz91 ag91 zc91 sr91 sz92 ag92 zc92 sr92 sz93 ag93 zc93 sr93 sz94 ag94 zc94 sr94 es94 el94 ln94 sz95 ag95 zc95 sr95 sz96 ag96 zc96 sr96 sz98 ag98 zc98 sr98 sz99 ag99 zc99 sr99 sz100 ag100 zc100 sr100 sz101 ag101 zc101 sr101 sz102 ag102 zc102 sr102 sz103 ag103 zc103 sr103 sz104 ag104 zc104 sr104 sz105 ag105 zc105 sr105 sz106 ag106 zc106 sr106 sz107 ag107 zc107 sr107 sz108 ag108 zc108 sr108 sz109 ag109 zc109 sr109 fd109_0 fo109_0 fd109_1 fo109_1 fd109_2 fo109_2 fd109_3 fo109_3 pl109 bd109 sz110 ag110 zc110 sr110 fd110_0 fo110_0 fd110_1 fo110_1 fd110_2 fo110_2 fd110_3 fo110_3 pl110 bd110 ni110 ta110 sz111 ag111 zc111 sr111 es111 el111 ln111 sz112 ag112 zc112 sr112 fd112_0 pl112 bd112 sz113 ag113 zc113 sr113 fd113_0 pl113 bd113 ni113 ta113 sz114 ag114 zc114 sr114 sz115 ag115 zc115 sr115 sz116 ag116 zc116 sr116 ni116 ta116 sz117 ag117 zc117 sr117 ni117 ta117 sz118 ag118 zc118 sr118 sz119 ag119 zc119 sr119 ni119 ta119 sz120 ag120 zc120 sr120 ni120 ta120 sz121 ag121 zc121 sr121 ni121 ta121 sz122 ag122 zc122 sr122 fd122_0 fo122_0 fd122_1 fo122_1 fd122_2 fo122_2 fd122_3 fo122_3 fd122_4 fo122_4 fd122_5 fo122_5 fd122_6 fo122_6 fd122_7 fo122_7 fd122_8 fo122_8 fd122_9 fo122_9 fd122_10 fo122_10 pl122 bd122 sz123 ag123 zc123 sr123 fd123_0 fo123_0 fd123_1 fo123_1 fd123_2 fo123_2 fd123_3 fo123_3 fd123_4 fo123_4 fd123_5 fo123_5 fd123_6 fo123_6 fd123_7 fo123_7 fd123_8 fo123_8 fd123_9 fo123_9 fd123_10 fo123_10 pl123 bd123 ni123 ta123 sz124 ag124 zc124 sr124 ar61 ia61 ba61 ar66 ia66 ba66 ar94 ia94 ba94 ar111 ia111 ba111 cv2_2 cv2_3 cv2_5 cv2_6 cv2_12 cv2_21 cv2_33 cv2_101 cv2_115 cv2_116 cv2_117 cv2_120 cv2_121 cv3_2 cv3_3 cv3_5 cv3_6 cv3_12 cv3_21 cv3_33 cv3_101 cv3_115 cv3_116 cv3_117 cv3_120 cv3_121 cv5_2 cv5_3 cv5_5 cv5_6 cv5_12 cv5_21 cv5_33 cv5_101 cv5_115 cv5_116 cv5_117 cv5_120 cv5_121 cv6_2 cv6_3 cv6_5 cv6_6 cv6_12 cv6_21 cv6_33 cv6_101 cv6_115 cv6_116 cv6_117 cv6_120 cv6_121 cv9_9 cv9_10 cv9_11 cv10_9 cv10_10 cv10_11 cv11_9 cv11_10 cv11_11 cv12_2 cv12_3 cv12_5 cv12_6 cv12_12 cv12_21 cv12_33 cv12_101 cv12_115 cv12_116 cv12_117 cv12_120 cv12_121 cv21_2 cv21_3 cv21_5 cv21_6 cv21_12 cv21_21 cv21_33 cv21_101 cv21_115 cv21_116 cv21_117 cv21_120 cv21_121 cv33_2 cv33_3 cv33_5 cv33_6 cv33_12 cv33_21 cv33_33 cv33_101 cv33_115 cv33_116 cv33_117 cv33_120 cv33_121 cv101_2 cv101_3 cv101_5 cv101_6 cv101_12 cv101_21 cv101_33 cv101_101 cv101_115 cv101_116 cv101_117 cv101_120 cv101_121 cv115_2 cv115_3 cv115_5 cv115_6 cv115_12 cv115_21 cv115_33 cv115_101 cv115_115 cv115_116 cv115_117 cv115_120 cv115_121 cv116_2 cv116_3 cv116_5 cv116_6 cv116_12 cv116_21 cv116_33 cv116_101 cv116_115 cv116_116 cv116_117 cv116_120 cv116_121 cv117_2 cv117_3 cv117_5 cv117_6 cv117_12 cv117_21 cv117_33 cv117_101 cv117_115 cv117_116 cv117_117 cv117_120 cv117_121 cv120_2 cv120_3 cv120_5 cv120_6 cv120_12 cv120_21 cv120_33 cv120_101 cv120_115 cv120_116 cv120_117 cv120_120 cv120_121 cv121_2 cv121_3 cv121_5 cv121_6 cv121_12 cv121_21 cv121_33 cv121_101 cv121_115 cv121_116 cv121_117 cv121_120 cv121_121
end Go.Proofs.YtmdiebdplakccaaDoor.Ty
