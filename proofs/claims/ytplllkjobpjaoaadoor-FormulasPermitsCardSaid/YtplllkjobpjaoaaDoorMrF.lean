/- Texts joined: Ty. No conditions. -/
import Derived.Test.YtplllkjobpjaoaaDoorProg
import Derived.Test.YtplllkjobpjaoaaDoorMrE
import Derived.KernelRfl
/- The closed facts on the types of this translation: cells, zero values, places of fields, elements. By program; no conditions. -/
namespace Go.Proofs.YtplllkjobpjaoaaDoor.Ty
open Go Go.Proofs Go.Abs
theorem mixed : Tryd.prog.follows .mixedOrders = true := by kernel_rfl
theorem sz1 : tsz Tryd.prog 1 = some 1 := by kernel_rfl
theorem ag1 : tag Tryd.prog 1 = some none := by kernel_rfl
theorem zc1 : tzc Tryd.prog 1 = some [.nilFunc] := by kernel_rfl
theorem sr1 : tsrc Tryd.prog 1 = true := by kernel_rfl
theorem sz2 : tsz Tryd.prog 2 = some 1 := by kernel_rfl
theorem ag2 : tag Tryd.prog 2 = some none := by kernel_rfl
theorem zc2 : tzc Tryd.prog 2 = some [(.int .i64 0)] := by kernel_rfl
theorem sr2 : tsrc Tryd.prog 2 = false := by kernel_rfl
theorem sz3 : tsz Tryd.prog 3 = some 1 := by kernel_rfl
theorem ag3 : tag Tryd.prog 3 = some none := by kernel_rfl
theorem zc3 : tzc Tryd.prog 3 = some [(.int .i64 0)] := by kernel_rfl
theorem sr3 : tsrc Tryd.prog 3 = false := by kernel_rfl
theorem sz4 : tsz Tryd.prog 4 = some 1 := by kernel_rfl
theorem ag4 : tag Tryd.prog 4 = some none := by kernel_rfl
theorem zc4 : tzc Tryd.prog 4 = some [(.bool false)] := by kernel_rfl
theorem sr4 : tsrc Tryd.prog 4 = true := by kernel_rfl
theorem bo4 : tbool Tryd.prog 4 = true := by kernel_rfl
theorem sz5 : tsz Tryd.prog 5 = some 1 := by kernel_rfl
theorem ag5 : tag Tryd.prog 5 = some none := by kernel_rfl
theorem zc5 : tzc Tryd.prog 5 = some [(.int .u8 0)] := by kernel_rfl
theorem sr5 : tsrc Tryd.prog 5 = false := by kernel_rfl
theorem sz6 : tsz Tryd.prog 6 = some 1 := by kernel_rfl
theorem ag6 : tag Tryd.prog 6 = some none := by kernel_rfl
theorem zc6 : tzc Tryd.prog 6 = some [(.int .u8 0)] := by kernel_rfl
theorem sr6 : tsrc Tryd.prog 6 = false := by kernel_rfl
theorem ni6 : tni Tryd.prog 6 = true := by kernel_rfl
theorem ta6 : tas Tryd.prog 6 = some (.int .u8 0) := by kernel_rfl
theorem sz7 : tsz Tryd.prog 7 = some 4 := by kernel_rfl
theorem ag7 : tag Tryd.prog 7 = some (some 4) := by kernel_rfl
theorem zc7 : tzc Tryd.prog 7 = some [(.int .i64 0), (.int .i64 0), (.bool false), (.int .u8 0)] := by kernel_rfl
theorem sr7 : tsrc Tryd.prog 7 = true := by kernel_rfl
theorem fd7_0 : tfd Tryd.prog 7 0 = some (0, 2) := by kernel_rfl
theorem fo7_0 : tfo Tryd.prog 7 0 = some 0 := by kernel_rfl
theorem fd7_1 : tfd Tryd.prog 7 1 = some (1, 3) := by kernel_rfl
theorem fo7_1 : tfo Tryd.prog 7 1 = some 1 := by kernel_rfl
theorem fd7_2 : tfd Tryd.prog 7 2 = some (2, 4) := by kernel_rfl
theorem fo7_2 : tfo Tryd.prog 7 2 = some 2 := by kernel_rfl
theorem fd7_3 : tfd Tryd.prog 7 3 = some (3, 6) := by kernel_rfl
theorem fo7_3 : tfo Tryd.prog 7 3 = some 3 := by kernel_rfl
theorem pl7 : tpl Tryd.prog 7 = some [(0, 1), (1, 1), (2, 1), (3, 1)] := by kernel_rfl
theorem bd7 (ps : List (Nat × AV)) (K : AV → Prop) : aBuild Tryd.prog 7 ps K = aBld (tpl Tryd.prog 7) (tzc Tryd.prog 7) ps K := aBuild_eq (by rw [pl7]; rfl) ps K
theorem sz8 : tsz Tryd.prog 8 = some 4 := by kernel_rfl
theorem ag8 : tag Tryd.prog 8 = some (some 4) := by kernel_rfl
theorem zc8 : tzc Tryd.prog 8 = some [(.int .i64 0), (.int .i64 0), (.bool false), (.int .u8 0)] := by kernel_rfl
theorem sr8 : tsrc Tryd.prog 8 = true := by kernel_rfl
theorem fd8_0 : tfd Tryd.prog 8 0 = some (0, 2) := by kernel_rfl
theorem fo8_0 : tfo Tryd.prog 8 0 = some 0 := by kernel_rfl
theorem fd8_1 : tfd Tryd.prog 8 1 = some (1, 3) := by kernel_rfl
theorem fo8_1 : tfo Tryd.prog 8 1 = some 1 := by kernel_rfl
theorem fd8_2 : tfd Tryd.prog 8 2 = some (2, 4) := by kernel_rfl
theorem fo8_2 : tfo Tryd.prog 8 2 = some 2 := by kernel_rfl
theorem fd8_3 : tfd Tryd.prog 8 3 = some (3, 6) := by kernel_rfl
theorem fo8_3 : tfo Tryd.prog 8 3 = some 3 := by kernel_rfl
theorem pl8 : tpl Tryd.prog 8 = some [(0, 1), (1, 1), (2, 1), (3, 1)] := by kernel_rfl
theorem bd8 (ps : List (Nat × AV)) (K : AV → Prop) : aBuild Tryd.prog 8 ps K = aBld (tpl Tryd.prog 8) (tzc Tryd.prog 8) ps K := aBuild_eq (by rw [pl8]; rfl) ps K
theorem ni8 : tni Tryd.prog 8 = true := by kernel_rfl
theorem ta8 : tas Tryd.prog 8 = some (.agg [(.int .i64 0), (.int .i64 0), (.bool false), (.int .u8 0)]) := by kernel_rfl
theorem sz9 : tsz Tryd.prog 9 = some 1 := by kernel_rfl
theorem ag9 : tag Tryd.prog 9 = some none := by kernel_rfl
theorem zc9 : tzc Tryd.prog 9 = some [(.str ⟨#[]⟩)] := by kernel_rfl
theorem sr9 : tsrc Tryd.prog 9 = true := by kernel_rfl
theorem cu9 : tcut Tryd.prog 9 = some none := by kernel_rfl
theorem ln9 : tlen Tryd.prog 9 = some .str := by kernel_rfl
theorem sz10 : tsz Tryd.prog 10 = some 1 := by kernel_rfl
theorem ag10 : tag Tryd.prog 10 = some none := by kernel_rfl
theorem zc10 : tzc Tryd.prog 10 = some [(.str ⟨#[]⟩)] := by kernel_rfl
theorem sr10 : tsrc Tryd.prog 10 = true := by kernel_rfl
theorem ni10 : tni Tryd.prog 10 = true := by kernel_rfl
theorem ta10 : tas Tryd.prog 10 = some (.str ⟨#[]⟩) := by kernel_rfl
theorem cu10 : tcut Tryd.prog 10 = some none := by kernel_rfl
theorem ln10 : tlen Tryd.prog 10 = some .str := by kernel_rfl
theorem sz11 : tsz Tryd.prog 11 = some 1 := by kernel_rfl
theorem ag11 : tag Tryd.prog 11 = some none := by kernel_rfl
theorem zc11 : tzc Tryd.prog 11 = some [(.str ⟨#[]⟩)] := by kernel_rfl
theorem sr11 : tsrc Tryd.prog 11 = true := by kernel_rfl
theorem ni11 : tni Tryd.prog 11 = true := by kernel_rfl
theorem ta11 : tas Tryd.prog 11 = some (.str ⟨#[]⟩) := by kernel_rfl
theorem cu11 : tcut Tryd.prog 11 = some none := by kernel_rfl
theorem ln11 : tlen Tryd.prog 11 = some .str := by kernel_rfl
theorem sz12 : tsz Tryd.prog 12 = some 1 := by kernel_rfl
theorem ag12 : tag Tryd.prog 12 = some none := by kernel_rfl
theorem zc12 : tzc Tryd.prog 12 = some [(.int .u64 0)] := by kernel_rfl
theorem sr12 : tsrc Tryd.prog 12 = false := by kernel_rfl
theorem sz13 : tsz Tryd.prog 13 = some 2 := by kernel_rfl
theorem ag13 : tag Tryd.prog 13 = some (some 2) := by kernel_rfl
theorem zc13 : tzc Tryd.prog 13 = some [(.str ⟨#[]⟩), (.int .u64 0)] := by kernel_rfl
theorem sr13 : tsrc Tryd.prog 13 = true := by kernel_rfl
theorem fd13_0 : tfd Tryd.prog 13 0 = some (0, 9) := by kernel_rfl
theorem fo13_0 : tfo Tryd.prog 13 0 = some 0 := by kernel_rfl
theorem fd13_1 : tfd Tryd.prog 13 1 = some (1, 12) := by kernel_rfl
theorem fo13_1 : tfo Tryd.prog 13 1 = some 1 := by kernel_rfl
theorem pl13 : tpl Tryd.prog 13 = some [(0, 1), (1, 1)] := by kernel_rfl
theorem bd13 (ps : List (Nat × AV)) (K : AV → Prop) : aBuild Tryd.prog 13 ps K = aBld (tpl Tryd.prog 13) (tzc Tryd.prog 13) ps K := aBuild_eq (by rw [pl13]; rfl) ps K
theorem sz14 : tsz Tryd.prog 14 = some 2 := by kernel_rfl
theorem ag14 : tag Tryd.prog 14 = some (some 2) := by kernel_rfl
theorem zc14 : tzc Tryd.prog 14 = some [(.str ⟨#[]⟩), (.int .u64 0)] := by kernel_rfl
theorem sr14 : tsrc Tryd.prog 14 = true := by kernel_rfl
theorem fd14_0 : tfd Tryd.prog 14 0 = some (0, 9) := by kernel_rfl
theorem fo14_0 : tfo Tryd.prog 14 0 = some 0 := by kernel_rfl
theorem fd14_1 : tfd Tryd.prog 14 1 = some (1, 12) := by kernel_rfl
theorem fo14_1 : tfo Tryd.prog 14 1 = some 1 := by kernel_rfl
theorem pl14 : tpl Tryd.prog 14 = some [(0, 1), (1, 1)] := by kernel_rfl
theorem bd14 (ps : List (Nat × AV)) (K : AV → Prop) : aBuild Tryd.prog 14 ps K = aBld (tpl Tryd.prog 14) (tzc Tryd.prog 14) ps K := aBuild_eq (by rw [pl14]; rfl) ps K
theorem ni14 : tni Tryd.prog 14 = true := by kernel_rfl
theorem ta14 : tas Tryd.prog 14 = some (.agg [(.str ⟨#[]⟩), (.int .u64 0)]) := by kernel_rfl
theorem sz15 : tsz Tryd.prog 15 = some 1 := by kernel_rfl
theorem ag15 : tag Tryd.prog 15 = some none := by kernel_rfl
theorem zc15 : tzc Tryd.prog 15 = some [(.ptr none)] := by kernel_rfl
theorem sr15 : tsrc Tryd.prog 15 = true := by kernel_rfl
theorem ni15 : tni Tryd.prog 15 = true := by kernel_rfl
theorem ta15 : tas Tryd.prog 15 = some (.ptr none) := by kernel_rfl
theorem sz16 : tsz Tryd.prog 16 = some 1 := by kernel_rfl
theorem ag16 : tag Tryd.prog 16 = some none := by kernel_rfl
theorem zc16 : tzc Tryd.prog 16 = some [(.ptr none)] := by kernel_rfl
theorem sr16 : tsrc Tryd.prog 16 = true := by kernel_rfl
theorem ni16 : tni Tryd.prog 16 = true := by kernel_rfl
theorem ta16 : tas Tryd.prog 16 = some (.ptr none) := by kernel_rfl
theorem sz17 : tsz Tryd.prog 17 = some 1 := by kernel_rfl
theorem ag17 : tag Tryd.prog 17 = some none := by kernel_rfl
theorem zc17 : tzc Tryd.prog 17 = some [(.ptr none)] := by kernel_rfl
theorem sr17 : tsrc Tryd.prog 17 = true := by kernel_rfl
theorem ni17 : tni Tryd.prog 17 = true := by kernel_rfl
theorem ta17 : tas Tryd.prog 17 = some (.ptr none) := by kernel_rfl
theorem sz18 : tsz Tryd.prog 18 = some 1 := by kernel_rfl
theorem ag18 : tag Tryd.prog 18 = some (some 1) := by kernel_rfl
theorem zc18 : tzc Tryd.prog 18 = some [(.ptr none)] := by kernel_rfl
theorem sr18 : tsrc Tryd.prog 18 = true := by kernel_rfl
theorem fd18_0 : tfd Tryd.prog 18 0 = some (0, 17) := by kernel_rfl
theorem fo18_0 : tfo Tryd.prog 18 0 = some 0 := by kernel_rfl
theorem pl18 : tpl Tryd.prog 18 = some [(0, 1)] := by kernel_rfl
theorem bd18 (ps : List (Nat × AV)) (K : AV → Prop) : aBuild Tryd.prog 18 ps K = aBld (tpl Tryd.prog 18) (tzc Tryd.prog 18) ps K := aBuild_eq (by rw [pl18]; rfl) ps K
theorem sz19 : tsz Tryd.prog 19 = some 1 := by kernel_rfl
theorem ag19 : tag Tryd.prog 19 = some (some 1) := by kernel_rfl
theorem zc19 : tzc Tryd.prog 19 = some [(.ptr none)] := by kernel_rfl
theorem sr19 : tsrc Tryd.prog 19 = true := by kernel_rfl
theorem fd19_0 : tfd Tryd.prog 19 0 = some (0, 17) := by kernel_rfl
theorem fo19_0 : tfo Tryd.prog 19 0 = some 0 := by kernel_rfl
theorem pl19 : tpl Tryd.prog 19 = some [(0, 1)] := by kernel_rfl
theorem bd19 (ps : List (Nat × AV)) (K : AV → Prop) : aBuild Tryd.prog 19 ps K = aBld (tpl Tryd.prog 19) (tzc Tryd.prog 19) ps K := aBuild_eq (by rw [pl19]; rfl) ps K
theorem ni19 : tni Tryd.prog 19 = true := by kernel_rfl
theorem ta19 : tas Tryd.prog 19 = some (.agg [(.ptr none)]) := by kernel_rfl
theorem sz20 : tsz Tryd.prog 20 = some 1 := by kernel_rfl
theorem ag20 : tag Tryd.prog 20 = some none := by kernel_rfl
theorem zc20 : tzc Tryd.prog 20 = some [.nilIface] := by kernel_rfl
theorem sr20 : tsrc Tryd.prog 20 = true := by kernel_rfl
theorem if20 : tifc Tryd.prog 20 = true := by kernel_rfl
theorem sz21 : tsz Tryd.prog 21 = some 1 := by kernel_rfl
theorem ag21 : tag Tryd.prog 21 = some none := by kernel_rfl
theorem zc21 : tzc Tryd.prog 21 = some [(.int .i32 0)] := by kernel_rfl
theorem sr21 : tsrc Tryd.prog 21 = false := by kernel_rfl
theorem sz22 : tsz Tryd.prog 22 = some 1 := by kernel_rfl
theorem ag22 : tag Tryd.prog 22 = some none := by kernel_rfl
theorem zc22 : tzc Tryd.prog 22 = some [(.sl [] .full)] := by kernel_rfl
theorem sr22 : tsrc Tryd.prog 22 = true := by kernel_rfl
theorem el22 : tel Tryd.prog 22 = some (none, 1) := by kernel_rfl
theorem cu22 : tcut Tryd.prog 22 = some (some 1) := by kernel_rfl
theorem ap22 : tap Tryd.prog 22 = some (1, 16) := by kernel_rfl
theorem bs22 : tbs Tryd.prog 22 = some 1 := by kernel_rfl
theorem ms22 : tms Tryd.prog 22 = some (1, 16, [(.str ⟨#[]⟩)], 9) := by kernel_rfl
theorem mm22 (l c : AV) (h : AH) (K : AV → AH → Prop) : aMakeSlice Tryd.prog 22 l c h K = aMkT (tms Tryd.prog 22) l c h K := aMakeSlice_eq (by rw [ms22]; rfl) l c K
theorem mc22 (x : AV) (h : AH) (K : AV → AH → Prop) : aClear Tryd.prog 22 x h K = aClT (tms Tryd.prog 22) x h K := aClear_eq (by rw [ms22]; rfl) x K
theorem mb22 (n : Nat) (ps : List (Nat × AV)) (h : AH) (K : AV → AH → Prop) : aBuildSliceM Tryd.prog 22 n ps h K = aBsM (tms Tryd.prog 22) n ps h K := aBuildSliceM_eq (by rw [ms22]; rfl) n ps K
theorem ma22 (s x : AV) (h : AH) (K : AV → AH → Prop) : aAppendM Tryd.prog 22 22 s x h K = aApM (tms Tryd.prog 22) s x h K := aAppendM_eq sr22 (by rw [ms22]; rfl) s x K
theorem ae22_22 (s x : AV) (h : AH) (K : AV → AH → Prop) : aAppend Tryd.prog 22 22 s x h K = aAp (tap Tryd.prog 22) s x h K := aAppend_eq sr22 s x K
theorem ln22 : tlen Tryd.prog 22 = some .sl := by kernel_rfl
theorem sz23 : tsz Tryd.prog 23 = some 1 := by kernel_rfl
theorem ag23 : tag Tryd.prog 23 = some none := by kernel_rfl
theorem zc23 : tzc Tryd.prog 23 = some [(.sl [] .full)] := by kernel_rfl
theorem sr23 : tsrc Tryd.prog 23 = true := by kernel_rfl
theorem el23 : tel Tryd.prog 23 = some (none, 8) := by kernel_rfl
theorem cu23 : tcut Tryd.prog 23 = some (some 8) := by kernel_rfl
theorem ap23 : tap Tryd.prog 23 = some (8, 96) := by kernel_rfl
theorem bs23 : tbs Tryd.prog 23 = some 8 := by kernel_rfl
theorem ms23 : tms Tryd.prog 23 = some (8, 96, [(.str ⟨#[]⟩), (.int .i64 0), (.int .i64 0), (.int .i64 0), (.int .i64 0), (.int .i64 0), (.str ⟨#[]⟩), (.sl [] .full)], 51) := by kernel_rfl
theorem mm23 (l c : AV) (h : AH) (K : AV → AH → Prop) : aMakeSlice Tryd.prog 23 l c h K = aMkT (tms Tryd.prog 23) l c h K := aMakeSlice_eq (by rw [ms23]; rfl) l c K
theorem mc23 (x : AV) (h : AH) (K : AV → AH → Prop) : aClear Tryd.prog 23 x h K = aClT (tms Tryd.prog 23) x h K := aClear_eq (by rw [ms23]; rfl) x K
theorem mb23 (n : Nat) (ps : List (Nat × AV)) (h : AH) (K : AV → AH → Prop) : aBuildSliceM Tryd.prog 23 n ps h K = aBsM (tms Tryd.prog 23) n ps h K := aBuildSliceM_eq (by rw [ms23]; rfl) n ps K
theorem ma23 (s x : AV) (h : AH) (K : AV → AH → Prop) : aAppendM Tryd.prog 23 23 s x h K = aApM (tms Tryd.prog 23) s x h K := aAppendM_eq sr23 (by rw [ms23]; rfl) s x K
theorem ae23_23 (s x : AV) (h : AH) (K : AV → AH → Prop) : aAppend Tryd.prog 23 23 s x h K = aAp (tap Tryd.prog 23) s x h K := aAppend_eq sr23 s x K
theorem ln23 : tlen Tryd.prog 23 = some .sl := by kernel_rfl
theorem sz24 : tsz Tryd.prog 24 = some 1 := by kernel_rfl
theorem ag24 : tag Tryd.prog 24 = some none := by kernel_rfl
theorem zc24 : tzc Tryd.prog 24 = some [(.sl [] .full)] := by kernel_rfl
theorem sr24 : tsrc Tryd.prog 24 = true := by kernel_rfl
theorem el24 : tel Tryd.prog 24 = some (none, 5) := by kernel_rfl
theorem cu24 : tcut Tryd.prog 24 = some (some 5) := by kernel_rfl
theorem ap24 : tap Tryd.prog 24 = some (5, 64) := by kernel_rfl
theorem bs24 : tbs Tryd.prog 24 = some 5 := by kernel_rfl
theorem ms24 : tms Tryd.prog 24 = some (5, 64, [(.int .i64 0), (.int .i64 0), (.int .i64 0), (.str ⟨#[]⟩), (.sl [] .full)], 26) := by kernel_rfl
theorem mm24 (l c : AV) (h : AH) (K : AV → AH → Prop) : aMakeSlice Tryd.prog 24 l c h K = aMkT (tms Tryd.prog 24) l c h K := aMakeSlice_eq (by rw [ms24]; rfl) l c K
theorem mc24 (x : AV) (h : AH) (K : AV → AH → Prop) : aClear Tryd.prog 24 x h K = aClT (tms Tryd.prog 24) x h K := aClear_eq (by rw [ms24]; rfl) x K
theorem mb24 (n : Nat) (ps : List (Nat × AV)) (h : AH) (K : AV → AH → Prop) : aBuildSliceM Tryd.prog 24 n ps h K = aBsM (tms Tryd.prog 24) n ps h K := aBuildSliceM_eq (by rw [ms24]; rfl) n ps K
theorem ma24 (s x : AV) (h : AH) (K : AV → AH → Prop) : aAppendM Tryd.prog 24 24 s x h K = aApM (tms Tryd.prog 24) s x h K := aAppendM_eq sr24 (by rw [ms24]; rfl) s x K
theorem ae24_24 (s x : AV) (h : AH) (K : AV → AH → Prop) : aAppend Tryd.prog 24 24 s x h K = aAp (tap Tryd.prog 24) s x h K := aAppend_eq sr24 s x K
theorem ln24 : tlen Tryd.prog 24 = some .sl := by kernel_rfl
theorem sz25 : tsz Tryd.prog 25 = some 5 := by kernel_rfl
theorem ag25 : tag Tryd.prog 25 = some (some 5) := by kernel_rfl
theorem zc25 : tzc Tryd.prog 25 = some [(.int .i64 0), (.int .i64 0), (.int .i64 0), (.str ⟨#[]⟩), (.sl [] .full)] := by kernel_rfl
theorem sr25 : tsrc Tryd.prog 25 = true := by kernel_rfl
theorem fd25_0 : tfd Tryd.prog 25 0 = some (0, 3) := by kernel_rfl
theorem fo25_0 : tfo Tryd.prog 25 0 = some 0 := by kernel_rfl
theorem fd25_1 : tfd Tryd.prog 25 1 = some (1, 3) := by kernel_rfl
theorem fo25_1 : tfo Tryd.prog 25 1 = some 1 := by kernel_rfl
theorem fd25_2 : tfd Tryd.prog 25 2 = some (2, 3) := by kernel_rfl
theorem fo25_2 : tfo Tryd.prog 25 2 = some 2 := by kernel_rfl
theorem fd25_3 : tfd Tryd.prog 25 3 = some (3, 9) := by kernel_rfl
theorem fo25_3 : tfo Tryd.prog 25 3 = some 3 := by kernel_rfl
theorem fd25_4 : tfd Tryd.prog 25 4 = some (4, 24) := by kernel_rfl
theorem fo25_4 : tfo Tryd.prog 25 4 = some 4 := by kernel_rfl
theorem pl25 : tpl Tryd.prog 25 = some [(0, 1), (1, 1), (2, 1), (3, 1), (4, 1)] := by kernel_rfl
theorem bd25 (ps : List (Nat × AV)) (K : AV → Prop) : aBuild Tryd.prog 25 ps K = aBld (tpl Tryd.prog 25) (tzc Tryd.prog 25) ps K := aBuild_eq (by rw [pl25]; rfl) ps K
theorem sz26 : tsz Tryd.prog 26 = some 5 := by kernel_rfl
theorem ag26 : tag Tryd.prog 26 = some (some 5) := by kernel_rfl
theorem zc26 : tzc Tryd.prog 26 = some [(.int .i64 0), (.int .i64 0), (.int .i64 0), (.str ⟨#[]⟩), (.sl [] .full)] := by kernel_rfl
theorem sr26 : tsrc Tryd.prog 26 = true := by kernel_rfl
theorem fd26_0 : tfd Tryd.prog 26 0 = some (0, 3) := by kernel_rfl
theorem fo26_0 : tfo Tryd.prog 26 0 = some 0 := by kernel_rfl
theorem fd26_1 : tfd Tryd.prog 26 1 = some (1, 3) := by kernel_rfl
theorem fo26_1 : tfo Tryd.prog 26 1 = some 1 := by kernel_rfl
theorem fd26_2 : tfd Tryd.prog 26 2 = some (2, 3) := by kernel_rfl
theorem fo26_2 : tfo Tryd.prog 26 2 = some 2 := by kernel_rfl
theorem fd26_3 : tfd Tryd.prog 26 3 = some (3, 9) := by kernel_rfl
theorem fo26_3 : tfo Tryd.prog 26 3 = some 3 := by kernel_rfl
theorem fd26_4 : tfd Tryd.prog 26 4 = some (4, 24) := by kernel_rfl
theorem fo26_4 : tfo Tryd.prog 26 4 = some 4 := by kernel_rfl
theorem pl26 : tpl Tryd.prog 26 = some [(0, 1), (1, 1), (2, 1), (3, 1), (4, 1)] := by kernel_rfl
theorem bd26 (ps : List (Nat × AV)) (K : AV → Prop) : aBuild Tryd.prog 26 ps K = aBld (tpl Tryd.prog 26) (tzc Tryd.prog 26) ps K := aBuild_eq (by rw [pl26]; rfl) ps K
theorem ni26 : tni Tryd.prog 26 = true := by kernel_rfl
theorem ta26 : tas Tryd.prog 26 = some (.agg [(.int .i64 0), (.int .i64 0), (.int .i64 0), (.str ⟨#[]⟩), (.sl [] .full)]) := by kernel_rfl
theorem sz27 : tsz Tryd.prog 27 = some 10 := by kernel_rfl
theorem ag27 : tag Tryd.prog 27 = some (some 10) := by kernel_rfl
theorem zc27 : tzc Tryd.prog 27 = some [(.str ⟨#[]⟩), (.sl [] .full), (.sl [] .full), (.sl [] .full), (.int .i64 0), (.int .i64 0), (.int .i64 0), (.str ⟨#[]⟩), (.sl [] .full), (.int .i64 0)] := by kernel_rfl
theorem sr27 : tsrc Tryd.prog 27 = true := by kernel_rfl
theorem fd27_0 : tfd Tryd.prog 27 0 = some (0, 9) := by kernel_rfl
theorem fo27_0 : tfo Tryd.prog 27 0 = some 0 := by kernel_rfl
theorem fd27_1 : tfd Tryd.prog 27 1 = some (1, 22) := by kernel_rfl
theorem fo27_1 : tfo Tryd.prog 27 1 = some 1 := by kernel_rfl
theorem fd27_2 : tfd Tryd.prog 27 2 = some (2, 22) := by kernel_rfl
theorem fo27_2 : tfo Tryd.prog 27 2 = some 2 := by kernel_rfl
theorem fd27_3 : tfd Tryd.prog 27 3 = some (3, 23) := by kernel_rfl
theorem fo27_3 : tfo Tryd.prog 27 3 = some 3 := by kernel_rfl
theorem fd27_4 : tfd Tryd.prog 27 4 = some (4, 26) := by kernel_rfl
theorem fo27_4 : tfo Tryd.prog 27 4 = some 4 := by kernel_rfl
theorem fd27_5 : tfd Tryd.prog 27 5 = some (9, 3) := by kernel_rfl
theorem fo27_5 : tfo Tryd.prog 27 5 = some 9 := by kernel_rfl
theorem pl27 : tpl Tryd.prog 27 = some [(0, 1), (1, 1), (2, 1), (3, 1), (4, 5), (9, 1)] := by kernel_rfl
theorem bd27 (ps : List (Nat × AV)) (K : AV → Prop) : aBuild Tryd.prog 27 ps K = aBld (tpl Tryd.prog 27) (tzc Tryd.prog 27) ps K := aBuild_eq (by rw [pl27]; rfl) ps K
theorem sz28 : tsz Tryd.prog 28 = some 10 := by kernel_rfl
theorem ag28 : tag Tryd.prog 28 = some (some 10) := by kernel_rfl
theorem zc28 : tzc Tryd.prog 28 = some [(.str ⟨#[]⟩), (.sl [] .full), (.sl [] .full), (.sl [] .full), (.int .i64 0), (.int .i64 0), (.int .i64 0), (.str ⟨#[]⟩), (.sl [] .full), (.int .i64 0)] := by kernel_rfl
theorem sr28 : tsrc Tryd.prog 28 = true := by kernel_rfl
theorem fd28_0 : tfd Tryd.prog 28 0 = some (0, 9) := by kernel_rfl
theorem fo28_0 : tfo Tryd.prog 28 0 = some 0 := by kernel_rfl
theorem fd28_1 : tfd Tryd.prog 28 1 = some (1, 22) := by kernel_rfl
theorem fo28_1 : tfo Tryd.prog 28 1 = some 1 := by kernel_rfl
theorem fd28_2 : tfd Tryd.prog 28 2 = some (2, 22) := by kernel_rfl
theorem fo28_2 : tfo Tryd.prog 28 2 = some 2 := by kernel_rfl
theorem fd28_3 : tfd Tryd.prog 28 3 = some (3, 23) := by kernel_rfl
theorem fo28_3 : tfo Tryd.prog 28 3 = some 3 := by kernel_rfl
theorem fd28_4 : tfd Tryd.prog 28 4 = some (4, 26) := by kernel_rfl
theorem fo28_4 : tfo Tryd.prog 28 4 = some 4 := by kernel_rfl
theorem fd28_5 : tfd Tryd.prog 28 5 = some (9, 3) := by kernel_rfl
theorem fo28_5 : tfo Tryd.prog 28 5 = some 9 := by kernel_rfl
theorem pl28 : tpl Tryd.prog 28 = some [(0, 1), (1, 1), (2, 1), (3, 1), (4, 5), (9, 1)] := by kernel_rfl
theorem bd28 (ps : List (Nat × AV)) (K : AV → Prop) : aBuild Tryd.prog 28 ps K = aBld (tpl Tryd.prog 28) (tzc Tryd.prog 28) ps K := aBuild_eq (by rw [pl28]; rfl) ps K
theorem ni28 : tni Tryd.prog 28 = true := by kernel_rfl
theorem ta28 : tas Tryd.prog 28 = some (.agg [(.str ⟨#[]⟩), (.sl [] .full), (.sl [] .full), (.sl [] .full), (.int .i64 0), (.int .i64 0), (.int .i64 0), (.str ⟨#[]⟩), (.sl [] .full), (.int .i64 0)]) := by kernel_rfl
theorem sz29 : tsz Tryd.prog 29 = some 1 := by kernel_rfl
theorem ag29 : tag Tryd.prog 29 = some none := by kernel_rfl
theorem zc29 : tzc Tryd.prog 29 = some [(.sl [] .full)] := by kernel_rfl
theorem sr29 : tsrc Tryd.prog 29 = true := by kernel_rfl
theorem el29 : tel Tryd.prog 29 = some (none, 1) := by kernel_rfl
theorem cu29 : tcut Tryd.prog 29 = some (some 1) := by kernel_rfl
theorem ap29 : tap Tryd.prog 29 = some (1, 24) := by kernel_rfl
theorem bs29 : tbs Tryd.prog 29 = some 1 := by kernel_rfl
theorem ms29 : tms Tryd.prog 29 = some (1, 24, [(.sl [] .full)], 52) := by kernel_rfl
theorem mm29 (l c : AV) (h : AH) (K : AV → AH → Prop) : aMakeSlice Tryd.prog 29 l c h K = aMkT (tms Tryd.prog 29) l c h K := aMakeSlice_eq (by rw [ms29]; rfl) l c K
theorem mc29 (x : AV) (h : AH) (K : AV → AH → Prop) : aClear Tryd.prog 29 x h K = aClT (tms Tryd.prog 29) x h K := aClear_eq (by rw [ms29]; rfl) x K
theorem mb29 (n : Nat) (ps : List (Nat × AV)) (h : AH) (K : AV → AH → Prop) : aBuildSliceM Tryd.prog 29 n ps h K = aBsM (tms Tryd.prog 29) n ps h K := aBuildSliceM_eq (by rw [ms29]; rfl) n ps K
theorem ma29 (s x : AV) (h : AH) (K : AV → AH → Prop) : aAppendM Tryd.prog 29 29 s x h K = aApM (tms Tryd.prog 29) s x h K := aAppendM_eq sr29 (by rw [ms29]; rfl) s x K
theorem ae29_29 (s x : AV) (h : AH) (K : AV → AH → Prop) : aAppend Tryd.prog 29 29 s x h K = aAp (tap Tryd.prog 29) s x h K := aAppend_eq sr29 s x K
theorem ln29 : tlen Tryd.prog 29 = some .sl := by kernel_rfl
theorem sz30 : tsz Tryd.prog 30 = some 1 := by kernel_rfl
theorem ag30 : tag Tryd.prog 30 = some none := by kernel_rfl
theorem zc30 : tzc Tryd.prog 30 = some [(.sl [] .full)] := by kernel_rfl
theorem sr30 : tsrc Tryd.prog 30 = true := by kernel_rfl
theorem el30 : tel Tryd.prog 30 = some (none, 1) := by kernel_rfl
theorem cu30 : tcut Tryd.prog 30 = some (some 1) := by kernel_rfl
theorem ap30 : tap Tryd.prog 30 = some (1, 8) := by kernel_rfl
theorem bs30 : tbs Tryd.prog 30 = some 1 := by kernel_rfl
theorem ms30 : tms Tryd.prog 30 = some (1, 8, [(.int .i64 0)], 3) := by kernel_rfl
theorem mm30 (l c : AV) (h : AH) (K : AV → AH → Prop) : aMakeSlice Tryd.prog 30 l c h K = aMkT (tms Tryd.prog 30) l c h K := aMakeSlice_eq (by rw [ms30]; rfl) l c K
theorem mc30 (x : AV) (h : AH) (K : AV → AH → Prop) : aClear Tryd.prog 30 x h K = aClT (tms Tryd.prog 30) x h K := aClear_eq (by rw [ms30]; rfl) x K
theorem mb30 (n : Nat) (ps : List (Nat × AV)) (h : AH) (K : AV → AH → Prop) : aBuildSliceM Tryd.prog 30 n ps h K = aBsM (tms Tryd.prog 30) n ps h K := aBuildSliceM_eq (by rw [ms30]; rfl) n ps K
theorem ma30 (s x : AV) (h : AH) (K : AV → AH → Prop) : aAppendM Tryd.prog 30 30 s x h K = aApM (tms Tryd.prog 30) s x h K := aAppendM_eq sr30 (by rw [ms30]; rfl) s x K
theorem ae30_30 (s x : AV) (h : AH) (K : AV → AH → Prop) : aAppend Tryd.prog 30 30 s x h K = aAp (tap Tryd.prog 30) s x h K := aAppend_eq sr30 s x K
theorem ln30 : tlen Tryd.prog 30 = some .sl := by kernel_rfl
theorem sz31 : tsz Tryd.prog 31 = some 1 := by kernel_rfl
theorem ag31 : tag Tryd.prog 31 = some none := by kernel_rfl
theorem zc31 : tzc Tryd.prog 31 = some [.nilFunc] := by kernel_rfl
theorem sr31 : tsrc Tryd.prog 31 = true := by kernel_rfl
theorem sz32 : tsz Tryd.prog 32 = some 1 := by kernel_rfl
theorem ag32 : tag Tryd.prog 32 = some none := by kernel_rfl
theorem zc32 : tzc Tryd.prog 32 = some [.nilFunc] := by kernel_rfl
theorem sr32 : tsrc Tryd.prog 32 = true := by kernel_rfl
theorem sz33 : tsz Tryd.prog 33 = some 1 := by kernel_rfl
theorem ag33 : tag Tryd.prog 33 = some none := by kernel_rfl
theorem zc33 : tzc Tryd.prog 33 = some [(.int .i64 0)] := by kernel_rfl
theorem sr33 : tsrc Tryd.prog 33 = false := by kernel_rfl
theorem ni33 : tni Tryd.prog 33 = true := by kernel_rfl
theorem ta33 : tas Tryd.prog 33 = some (.int .i64 0) := by kernel_rfl
theorem sz35 : tsz Tryd.prog 35 = some 1 := by kernel_rfl
theorem ag35 : tag Tryd.prog 35 = some none := by kernel_rfl
theorem zc35 : tzc Tryd.prog 35 = some [.nilFunc] := by kernel_rfl
theorem sr35 : tsrc Tryd.prog 35 = true := by kernel_rfl
theorem sz36 : tsz Tryd.prog 36 = some 1 := by kernel_rfl
theorem ag36 : tag Tryd.prog 36 = some none := by kernel_rfl
theorem zc36 : tzc Tryd.prog 36 = some [.nilFunc] := by kernel_rfl
theorem sr36 : tsrc Tryd.prog 36 = true := by kernel_rfl
theorem sz37 : tsz Tryd.prog 37 = some 1 := by kernel_rfl
theorem ag37 : tag Tryd.prog 37 = some none := by kernel_rfl
theorem zc37 : tzc Tryd.prog 37 = some [(.sl [] .full)] := by kernel_rfl
theorem sr37 : tsrc Tryd.prog 37 = true := by kernel_rfl
theorem el37 : tel Tryd.prog 37 = some (none, 3) := by kernel_rfl
theorem cu37 : tcut Tryd.prog 37 = some (some 3) := by kernel_rfl
theorem ap37 : tap Tryd.prog 37 = some (3, 40) := by kernel_rfl
theorem bs37 : tbs Tryd.prog 37 = some 3 := by kernel_rfl
theorem ms37 : tms Tryd.prog 37 = some (3, 40, [(.int .i64 0), (.int .i64 0), (.sl [] .full)], 39) := by kernel_rfl
theorem mm37 (l c : AV) (h : AH) (K : AV → AH → Prop) : aMakeSlice Tryd.prog 37 l c h K = aMkT (tms Tryd.prog 37) l c h K := aMakeSlice_eq (by rw [ms37]; rfl) l c K
theorem mc37 (x : AV) (h : AH) (K : AV → AH → Prop) : aClear Tryd.prog 37 x h K = aClT (tms Tryd.prog 37) x h K := aClear_eq (by rw [ms37]; rfl) x K
theorem mb37 (n : Nat) (ps : List (Nat × AV)) (h : AH) (K : AV → AH → Prop) : aBuildSliceM Tryd.prog 37 n ps h K = aBsM (tms Tryd.prog 37) n ps h K := aBuildSliceM_eq (by rw [ms37]; rfl) n ps K
theorem ma37 (s x : AV) (h : AH) (K : AV → AH → Prop) : aAppendM Tryd.prog 37 37 s x h K = aApM (tms Tryd.prog 37) s x h K := aAppendM_eq sr37 (by rw [ms37]; rfl) s x K
theorem ae37_37 (s x : AV) (h : AH) (K : AV → AH → Prop) : aAppend Tryd.prog 37 37 s x h K = aAp (tap Tryd.prog 37) s x h K := aAppend_eq sr37 s x K
theorem ln37 : tlen Tryd.prog 37 = some .sl := by kernel_rfl
theorem sz38 : tsz Tryd.prog 38 = some 3 := by kernel_rfl
theorem ag38 : tag Tryd.prog 38 = some (some 3) := by kernel_rfl
theorem zc38 : tzc Tryd.prog 38 = some [(.int .i64 0), (.int .i64 0), (.sl [] .full)] := by kernel_rfl
theorem sr38 : tsrc Tryd.prog 38 = true := by kernel_rfl
theorem fd38_0 : tfd Tryd.prog 38 0 = some (0, 3) := by kernel_rfl
theorem fo38_0 : tfo Tryd.prog 38 0 = some 0 := by kernel_rfl
theorem fd38_1 : tfd Tryd.prog 38 1 = some (1, 3) := by kernel_rfl
theorem fo38_1 : tfo Tryd.prog 38 1 = some 1 := by kernel_rfl
theorem fd38_2 : tfd Tryd.prog 38 2 = some (2, 37) := by kernel_rfl
theorem fo38_2 : tfo Tryd.prog 38 2 = some 2 := by kernel_rfl
theorem pl38 : tpl Tryd.prog 38 = some [(0, 1), (1, 1), (2, 1)] := by kernel_rfl
theorem bd38 (ps : List (Nat × AV)) (K : AV → Prop) : aBuild Tryd.prog 38 ps K = aBld (tpl Tryd.prog 38) (tzc Tryd.prog 38) ps K := aBuild_eq (by rw [pl38]; rfl) ps K
theorem sz39 : tsz Tryd.prog 39 = some 3 := by kernel_rfl
theorem ag39 : tag Tryd.prog 39 = some (some 3) := by kernel_rfl
theorem zc39 : tzc Tryd.prog 39 = some [(.int .i64 0), (.int .i64 0), (.sl [] .full)] := by kernel_rfl
theorem sr39 : tsrc Tryd.prog 39 = true := by kernel_rfl
theorem fd39_0 : tfd Tryd.prog 39 0 = some (0, 3) := by kernel_rfl
theorem fo39_0 : tfo Tryd.prog 39 0 = some 0 := by kernel_rfl
theorem fd39_1 : tfd Tryd.prog 39 1 = some (1, 3) := by kernel_rfl
theorem fo39_1 : tfo Tryd.prog 39 1 = some 1 := by kernel_rfl
theorem fd39_2 : tfd Tryd.prog 39 2 = some (2, 37) := by kernel_rfl
theorem fo39_2 : tfo Tryd.prog 39 2 = some 2 := by kernel_rfl
theorem pl39 : tpl Tryd.prog 39 = some [(0, 1), (1, 1), (2, 1)] := by kernel_rfl
theorem bd39 (ps : List (Nat × AV)) (K : AV → Prop) : aBuild Tryd.prog 39 ps K = aBld (tpl Tryd.prog 39) (tzc Tryd.prog 39) ps K := aBuild_eq (by rw [pl39]; rfl) ps K
theorem ni39 : tni Tryd.prog 39 = true := by kernel_rfl
theorem ta39 : tas Tryd.prog 39 = some (.agg [(.int .i64 0), (.int .i64 0), (.sl [] .full)]) := by kernel_rfl
theorem sz41 : tsz Tryd.prog 41 = some 1 := by kernel_rfl
theorem ag41 : tag Tryd.prog 41 = some none := by kernel_rfl
theorem zc41 : tzc Tryd.prog 41 = some [.nilFunc] := by kernel_rfl
theorem sr41 : tsrc Tryd.prog 41 = true := by kernel_rfl
theorem sz42 : tsz Tryd.prog 42 = some 1 := by kernel_rfl
theorem ag42 : tag Tryd.prog 42 = some none := by kernel_rfl
theorem zc42 : tzc Tryd.prog 42 = some [.nilFunc] := by kernel_rfl
theorem sr42 : tsrc Tryd.prog 42 = true := by kernel_rfl
theorem sz43 : tsz Tryd.prog 43 = some 1 := by kernel_rfl
theorem ag43 : tag Tryd.prog 43 = some none := by kernel_rfl
theorem zc43 : tzc Tryd.prog 43 = some [.nilFunc] := by kernel_rfl
theorem sr43 : tsrc Tryd.prog 43 = true := by kernel_rfl
theorem sz44 : tsz Tryd.prog 44 = some 1 := by kernel_rfl
theorem ag44 : tag Tryd.prog 44 = some none := by kernel_rfl
theorem zc44 : tzc Tryd.prog 44 = some [.nilFunc] := by kernel_rfl
theorem sr44 : tsrc Tryd.prog 44 = true := by kernel_rfl
theorem sz45 : tsz Tryd.prog 45 = some 1 := by kernel_rfl
theorem ag45 : tag Tryd.prog 45 = some none := by kernel_rfl
theorem zc45 : tzc Tryd.prog 45 = some [.nilFunc] := by kernel_rfl
theorem sr45 : tsrc Tryd.prog 45 = true := by kernel_rfl
theorem sz46 : tsz Tryd.prog 46 = some 1 := by kernel_rfl
theorem ag46 : tag Tryd.prog 46 = some none := by kernel_rfl
theorem zc46 : tzc Tryd.prog 46 = some [.nilFunc] := by kernel_rfl
theorem sr46 : tsrc Tryd.prog 46 = true := by kernel_rfl
theorem sz47 : tsz Tryd.prog 47 = some 1 := by kernel_rfl
theorem ag47 : tag Tryd.prog 47 = some none := by kernel_rfl
theorem zc47 : tzc Tryd.prog 47 = some [.nilFunc] := by kernel_rfl
theorem sr47 : tsrc Tryd.prog 47 = true := by kernel_rfl
theorem sz48 : tsz Tryd.prog 48 = some 1 := by kernel_rfl
theorem ag48 : tag Tryd.prog 48 = some none := by kernel_rfl
theorem zc48 : tzc Tryd.prog 48 = some [.nilFunc] := by kernel_rfl
theorem sr48 : tsrc Tryd.prog 48 = true := by kernel_rfl
theorem sz49 : tsz Tryd.prog 49 = some 1 := by kernel_rfl
theorem ag49 : tag Tryd.prog 49 = some none := by kernel_rfl
theorem zc49 : tzc Tryd.prog 49 = some [.nilFunc] := by kernel_rfl
theorem sr49 : tsrc Tryd.prog 49 = true := by kernel_rfl
theorem sz50 : tsz Tryd.prog 50 = some 8 := by kernel_rfl
theorem ag50 : tag Tryd.prog 50 = some (some 8) := by kernel_rfl
theorem zc50 : tzc Tryd.prog 50 = some [(.str ⟨#[]⟩), (.int .i64 0), (.int .i64 0), (.int .i64 0), (.int .i64 0), (.int .i64 0), (.str ⟨#[]⟩), (.sl [] .full)] := by kernel_rfl
theorem sr50 : tsrc Tryd.prog 50 = true := by kernel_rfl
theorem fd50_0 : tfd Tryd.prog 50 0 = some (0, 9) := by kernel_rfl
theorem fo50_0 : tfo Tryd.prog 50 0 = some 0 := by kernel_rfl
theorem fd50_1 : tfd Tryd.prog 50 1 = some (1, 3) := by kernel_rfl
theorem fo50_1 : tfo Tryd.prog 50 1 = some 1 := by kernel_rfl
theorem fd50_2 : tfd Tryd.prog 50 2 = some (2, 3) := by kernel_rfl
theorem fo50_2 : tfo Tryd.prog 50 2 = some 2 := by kernel_rfl
theorem fd50_3 : tfd Tryd.prog 50 3 = some (3, 26) := by kernel_rfl
theorem fo50_3 : tfo Tryd.prog 50 3 = some 3 := by kernel_rfl
theorem pl50 : tpl Tryd.prog 50 = some [(0, 1), (1, 1), (2, 1), (3, 5)] := by kernel_rfl
theorem bd50 (ps : List (Nat × AV)) (K : AV → Prop) : aBuild Tryd.prog 50 ps K = aBld (tpl Tryd.prog 50) (tzc Tryd.prog 50) ps K := aBuild_eq (by rw [pl50]; rfl) ps K
theorem sz51 : tsz Tryd.prog 51 = some 8 := by kernel_rfl
theorem ag51 : tag Tryd.prog 51 = some (some 8) := by kernel_rfl
theorem zc51 : tzc Tryd.prog 51 = some [(.str ⟨#[]⟩), (.int .i64 0), (.int .i64 0), (.int .i64 0), (.int .i64 0), (.int .i64 0), (.str ⟨#[]⟩), (.sl [] .full)] := by kernel_rfl
theorem sr51 : tsrc Tryd.prog 51 = true := by kernel_rfl
theorem fd51_0 : tfd Tryd.prog 51 0 = some (0, 9) := by kernel_rfl
theorem fo51_0 : tfo Tryd.prog 51 0 = some 0 := by kernel_rfl
theorem fd51_1 : tfd Tryd.prog 51 1 = some (1, 3) := by kernel_rfl
theorem fo51_1 : tfo Tryd.prog 51 1 = some 1 := by kernel_rfl
theorem fd51_2 : tfd Tryd.prog 51 2 = some (2, 3) := by kernel_rfl
theorem fo51_2 : tfo Tryd.prog 51 2 = some 2 := by kernel_rfl
theorem fd51_3 : tfd Tryd.prog 51 3 = some (3, 26) := by kernel_rfl
theorem fo51_3 : tfo Tryd.prog 51 3 = some 3 := by kernel_rfl
theorem pl51 : tpl Tryd.prog 51 = some [(0, 1), (1, 1), (2, 1), (3, 5)] := by kernel_rfl
theorem bd51 (ps : List (Nat × AV)) (K : AV → Prop) : aBuild Tryd.prog 51 ps K = aBld (tpl Tryd.prog 51) (tzc Tryd.prog 51) ps K := aBuild_eq (by rw [pl51]; rfl) ps K
theorem ni51 : tni Tryd.prog 51 = true := by kernel_rfl
theorem ta51 : tas Tryd.prog 51 = some (.agg [(.str ⟨#[]⟩), (.int .i64 0), (.int .i64 0), (.int .i64 0), (.int .i64 0), (.int .i64 0), (.str ⟨#[]⟩), (.sl [] .full)]) := by kernel_rfl
theorem sz52 : tsz Tryd.prog 52 = some 1 := by kernel_rfl
theorem ag52 : tag Tryd.prog 52 = some none := by kernel_rfl
theorem zc52 : tzc Tryd.prog 52 = some [(.sl [] .full)] := by kernel_rfl
theorem sr52 : tsrc Tryd.prog 52 = true := by kernel_rfl
theorem el52 : tel Tryd.prog 52 = some (none, 2) := by kernel_rfl
theorem cu52 : tcut Tryd.prog 52 = some (some 2) := by kernel_rfl
theorem ap52 : tap Tryd.prog 52 = some (2, 16) := by kernel_rfl
theorem bs52 : tbs Tryd.prog 52 = some 2 := by kernel_rfl
theorem ms52 : tms Tryd.prog 52 = some (2, 16, [(.int .i64 0), (.int .i64 0)], 72) := by kernel_rfl
theorem mm52 (l c : AV) (h : AH) (K : AV → AH → Prop) : aMakeSlice Tryd.prog 52 l c h K = aMkT (tms Tryd.prog 52) l c h K := aMakeSlice_eq (by rw [ms52]; rfl) l c K
theorem mc52 (x : AV) (h : AH) (K : AV → AH → Prop) : aClear Tryd.prog 52 x h K = aClT (tms Tryd.prog 52) x h K := aClear_eq (by rw [ms52]; rfl) x K
theorem mb52 (n : Nat) (ps : List (Nat × AV)) (h : AH) (K : AV → AH → Prop) : aBuildSliceM Tryd.prog 52 n ps h K = aBsM (tms Tryd.prog 52) n ps h K := aBuildSliceM_eq (by rw [ms52]; rfl) n ps K
theorem ma52 (s x : AV) (h : AH) (K : AV → AH → Prop) : aAppendM Tryd.prog 52 52 s x h K = aApM (tms Tryd.prog 52) s x h K := aAppendM_eq sr52 (by rw [ms52]; rfl) s x K
theorem ae52_52 (s x : AV) (h : AH) (K : AV → AH → Prop) : aAppend Tryd.prog 52 52 s x h K = aAp (tap Tryd.prog 52) s x h K := aAppend_eq sr52 s x K
theorem ln52 : tlen Tryd.prog 52 = some .sl := by kernel_rfl
theorem sz53 : tsz Tryd.prog 53 = some 1 := by kernel_rfl
theorem ag53 : tag Tryd.prog 53 = some none := by kernel_rfl
theorem zc53 : tzc Tryd.prog 53 = some [.nilFunc] := by kernel_rfl
theorem sr53 : tsrc Tryd.prog 53 = true := by kernel_rfl
theorem sz54 : tsz Tryd.prog 54 = some 1 := by kernel_rfl
theorem ag54 : tag Tryd.prog 54 = some none := by kernel_rfl
theorem zc54 : tzc Tryd.prog 54 = some [.nilFunc] := by kernel_rfl
theorem sr54 : tsrc Tryd.prog 54 = true := by kernel_rfl
theorem sz55 : tsz Tryd.prog 55 = some 1 := by kernel_rfl
theorem ag55 : tag Tryd.prog 55 = some none := by kernel_rfl
theorem zc55 : tzc Tryd.prog 55 = some [.nilFunc] := by kernel_rfl
theorem sr55 : tsrc Tryd.prog 55 = true := by kernel_rfl
theorem sz56 : tsz Tryd.prog 56 = some 3 := by kernel_rfl
theorem ag56 : tag Tryd.prog 56 = some (some 3) := by kernel_rfl
theorem zc56 : tzc Tryd.prog 56 = some [(.int .i64 0), (.sl [] .full), (.sl [] .full)] := by kernel_rfl
theorem sr56 : tsrc Tryd.prog 56 = true := by kernel_rfl
theorem fd56_0 : tfd Tryd.prog 56 0 = some (0, 3) := by kernel_rfl
theorem fo56_0 : tfo Tryd.prog 56 0 = some 0 := by kernel_rfl
theorem fd56_1 : tfd Tryd.prog 56 1 = some (1, 29) := by kernel_rfl
theorem fo56_1 : tfo Tryd.prog 56 1 = some 1 := by kernel_rfl
theorem fd56_2 : tfd Tryd.prog 56 2 = some (2, 30) := by kernel_rfl
theorem fo56_2 : tfo Tryd.prog 56 2 = some 2 := by kernel_rfl
theorem pl56 : tpl Tryd.prog 56 = some [(0, 1), (1, 1), (2, 1)] := by kernel_rfl
theorem bd56 (ps : List (Nat × AV)) (K : AV → Prop) : aBuild Tryd.prog 56 ps K = aBld (tpl Tryd.prog 56) (tzc Tryd.prog 56) ps K := aBuild_eq (by rw [pl56]; rfl) ps K
theorem sz57 : tsz Tryd.prog 57 = some 3 := by kernel_rfl
theorem ag57 : tag Tryd.prog 57 = some (some 3) := by kernel_rfl
theorem zc57 : tzc Tryd.prog 57 = some [(.int .i64 0), (.sl [] .full), (.sl [] .full)] := by kernel_rfl
theorem sr57 : tsrc Tryd.prog 57 = true := by kernel_rfl
theorem fd57_0 : tfd Tryd.prog 57 0 = some (0, 3) := by kernel_rfl
theorem fo57_0 : tfo Tryd.prog 57 0 = some 0 := by kernel_rfl
theorem fd57_1 : tfd Tryd.prog 57 1 = some (1, 29) := by kernel_rfl
theorem fo57_1 : tfo Tryd.prog 57 1 = some 1 := by kernel_rfl
theorem fd57_2 : tfd Tryd.prog 57 2 = some (2, 30) := by kernel_rfl
theorem fo57_2 : tfo Tryd.prog 57 2 = some 2 := by kernel_rfl
theorem pl57 : tpl Tryd.prog 57 = some [(0, 1), (1, 1), (2, 1)] := by kernel_rfl
theorem bd57 (ps : List (Nat × AV)) (K : AV → Prop) : aBuild Tryd.prog 57 ps K = aBld (tpl Tryd.prog 57) (tzc Tryd.prog 57) ps K := aBuild_eq (by rw [pl57]; rfl) ps K
theorem ni57 : tni Tryd.prog 57 = true := by kernel_rfl
theorem ta57 : tas Tryd.prog 57 = some (.agg [(.int .i64 0), (.sl [] .full), (.sl [] .full)]) := by kernel_rfl
theorem sz58 : tsz Tryd.prog 58 = some 1 := by kernel_rfl
theorem ag58 : tag Tryd.prog 58 = some none := by kernel_rfl
theorem zc58 : tzc Tryd.prog 58 = some [.nilFunc] := by kernel_rfl
theorem sr58 : tsrc Tryd.prog 58 = true := by kernel_rfl
theorem sz59 : tsz Tryd.prog 59 = some 1 := by kernel_rfl
theorem ag59 : tag Tryd.prog 59 = some none := by kernel_rfl
theorem zc59 : tzc Tryd.prog 59 = some [.nilFunc] := by kernel_rfl
theorem sr59 : tsrc Tryd.prog 59 = true := by kernel_rfl
theorem sz60 : tsz Tryd.prog 60 = some 1 := by kernel_rfl
theorem ag60 : tag Tryd.prog 60 = some none := by kernel_rfl
theorem zc60 : tzc Tryd.prog 60 = some [.nilFunc] := by kernel_rfl
theorem sr60 : tsrc Tryd.prog 60 = true := by kernel_rfl
theorem sz61 : tsz Tryd.prog 61 = some 1 := by kernel_rfl
theorem ag61 : tag Tryd.prog 61 = some none := by kernel_rfl
theorem zc61 : tzc Tryd.prog 61 = some [.nilFunc] := by kernel_rfl
theorem sr61 : tsrc Tryd.prog 61 = true := by kernel_rfl
theorem sz62 : tsz Tryd.prog 62 = some 2 := by kernel_rfl
theorem ag62 : tag Tryd.prog 62 = some (some 2) := by kernel_rfl
theorem zc62 : tzc Tryd.prog 62 = some [(.int .i64 0), (.sl [] .full)] := by kernel_rfl
theorem sr62 : tsrc Tryd.prog 62 = true := by kernel_rfl
theorem fd62_0 : tfd Tryd.prog 62 0 = some (0, 3) := by kernel_rfl
theorem fo62_0 : tfo Tryd.prog 62 0 = some 0 := by kernel_rfl
theorem fd62_1 : tfd Tryd.prog 62 1 = some (1, 29) := by kernel_rfl
theorem fo62_1 : tfo Tryd.prog 62 1 = some 1 := by kernel_rfl
theorem pl62 : tpl Tryd.prog 62 = some [(0, 1), (1, 1)] := by kernel_rfl
theorem bd62 (ps : List (Nat × AV)) (K : AV → Prop) : aBuild Tryd.prog 62 ps K = aBld (tpl Tryd.prog 62) (tzc Tryd.prog 62) ps K := aBuild_eq (by rw [pl62]; rfl) ps K
theorem sz63 : tsz Tryd.prog 63 = some 2 := by kernel_rfl
theorem ag63 : tag Tryd.prog 63 = some (some 2) := by kernel_rfl
theorem zc63 : tzc Tryd.prog 63 = some [(.int .i64 0), (.sl [] .full)] := by kernel_rfl
theorem sr63 : tsrc Tryd.prog 63 = true := by kernel_rfl
theorem fd63_0 : tfd Tryd.prog 63 0 = some (0, 3) := by kernel_rfl
theorem fo63_0 : tfo Tryd.prog 63 0 = some 0 := by kernel_rfl
theorem fd63_1 : tfd Tryd.prog 63 1 = some (1, 29) := by kernel_rfl
theorem fo63_1 : tfo Tryd.prog 63 1 = some 1 := by kernel_rfl
theorem pl63 : tpl Tryd.prog 63 = some [(0, 1), (1, 1)] := by kernel_rfl
theorem bd63 (ps : List (Nat × AV)) (K : AV → Prop) : aBuild Tryd.prog 63 ps K = aBld (tpl Tryd.prog 63) (tzc Tryd.prog 63) ps K := aBuild_eq (by rw [pl63]; rfl) ps K
theorem ni63 : tni Tryd.prog 63 = true := by kernel_rfl
theorem ta63 : tas Tryd.prog 63 = some (.agg [(.int .i64 0), (.sl [] .full)]) := by kernel_rfl
theorem sz64 : tsz Tryd.prog 64 = some 1 := by kernel_rfl
theorem ag64 : tag Tryd.prog 64 = some none := by kernel_rfl
theorem zc64 : tzc Tryd.prog 64 = some [.nilFunc] := by kernel_rfl
theorem sr64 : tsrc Tryd.prog 64 = true := by kernel_rfl
theorem sz65 : tsz Tryd.prog 65 = some 1 := by kernel_rfl
theorem ag65 : tag Tryd.prog 65 = some none := by kernel_rfl
theorem zc65 : tzc Tryd.prog 65 = some [(.map none)] := by kernel_rfl
theorem sr65 : tsrc Tryd.prog 65 = true := by kernel_rfl
theorem ln65 : tlen Tryd.prog 65 = some .map := by kernel_rfl
theorem mk65 : tmk Tryd.prog 65 = some (true, (.int .i64 0)) := by kernel_rfl
theorem sz66 : tsz Tryd.prog 66 = some 1 := by kernel_rfl
theorem ag66 : tag Tryd.prog 66 = some none := by kernel_rfl
theorem zc66 : tzc Tryd.prog 66 = some [.nilFunc] := by kernel_rfl
theorem sr66 : tsrc Tryd.prog 66 = true := by kernel_rfl
theorem sz67 : tsz Tryd.prog 67 = some 1 := by kernel_rfl
theorem ag67 : tag Tryd.prog 67 = some none := by kernel_rfl
theorem zc67 : tzc Tryd.prog 67 = some [.nilFunc] := by kernel_rfl
theorem sr67 : tsrc Tryd.prog 67 = true := by kernel_rfl
theorem sz69 : tsz Tryd.prog 69 = some 1 := by kernel_rfl
theorem ag69 : tag Tryd.prog 69 = some none := by kernel_rfl
theorem zc69 : tzc Tryd.prog 69 = some [.nilFunc] := by kernel_rfl
theorem sr69 : tsrc Tryd.prog 69 = true := by kernel_rfl
theorem sz70 : tsz Tryd.prog 70 = some 1 := by kernel_rfl
theorem ag70 : tag Tryd.prog 70 = some none := by kernel_rfl
theorem zc70 : tzc Tryd.prog 70 = some [.nilFunc] := by kernel_rfl
theorem sr70 : tsrc Tryd.prog 70 = true := by kernel_rfl
theorem sz71 : tsz Tryd.prog 71 = some 2 := by kernel_rfl
theorem ag71 : tag Tryd.prog 71 = some (some 2) := by kernel_rfl
theorem zc71 : tzc Tryd.prog 71 = some [(.int .i64 0), (.int .i64 0)] := by kernel_rfl
theorem sr71 : tsrc Tryd.prog 71 = true := by kernel_rfl
theorem fd71_0 : tfd Tryd.prog 71 0 = some (0, 3) := by kernel_rfl
theorem fo71_0 : tfo Tryd.prog 71 0 = some 0 := by kernel_rfl
theorem fd71_1 : tfd Tryd.prog 71 1 = some (1, 3) := by kernel_rfl
theorem fo71_1 : tfo Tryd.prog 71 1 = some 1 := by kernel_rfl
theorem pl71 : tpl Tryd.prog 71 = some [(0, 1), (1, 1)] := by kernel_rfl
theorem bd71 (ps : List (Nat × AV)) (K : AV → Prop) : aBuild Tryd.prog 71 ps K = aBld (tpl Tryd.prog 71) (tzc Tryd.prog 71) ps K := aBuild_eq (by rw [pl71]; rfl) ps K
theorem sz72 : tsz Tryd.prog 72 = some 2 := by kernel_rfl
theorem ag72 : tag Tryd.prog 72 = some (some 2) := by kernel_rfl
theorem zc72 : tzc Tryd.prog 72 = some [(.int .i64 0), (.int .i64 0)] := by kernel_rfl
theorem sr72 : tsrc Tryd.prog 72 = true := by kernel_rfl
theorem fd72_0 : tfd Tryd.prog 72 0 = some (0, 3) := by kernel_rfl
theorem fo72_0 : tfo Tryd.prog 72 0 = some 0 := by kernel_rfl
theorem fd72_1 : tfd Tryd.prog 72 1 = some (1, 3) := by kernel_rfl
theorem fo72_1 : tfo Tryd.prog 72 1 = some 1 := by kernel_rfl
theorem pl72 : tpl Tryd.prog 72 = some [(0, 1), (1, 1)] := by kernel_rfl
theorem bd72 (ps : List (Nat × AV)) (K : AV → Prop) : aBuild Tryd.prog 72 ps K = aBld (tpl Tryd.prog 72) (tzc Tryd.prog 72) ps K := aBuild_eq (by rw [pl72]; rfl) ps K
theorem es72 : teqS Tryd.prog 72 = some [(0, .int), (1, .int)] := by kernel_rfl
theorem ni72 : tni Tryd.prog 72 = true := by kernel_rfl
theorem ta72 : tas Tryd.prog 72 = some (.agg [(.int .i64 0), (.int .i64 0)]) := by kernel_rfl
theorem sz73 : tsz Tryd.prog 73 = some 1 := by kernel_rfl
theorem ag73 : tag Tryd.prog 73 = some none := by kernel_rfl
theorem zc73 : tzc Tryd.prog 73 = some [.nilFunc] := by kernel_rfl
theorem sr73 : tsrc Tryd.prog 73 = true := by kernel_rfl
theorem sz74 : tsz Tryd.prog 74 = some 5 := by kernel_rfl
theorem ag74 : tag Tryd.prog 74 = some (some 5) := by kernel_rfl
theorem zc74 : tzc Tryd.prog 74 = some [.nilFunc, .nilFunc, .nilFunc, .nilFunc, .nilFunc] := by kernel_rfl
theorem sr74 : tsrc Tryd.prog 74 = true := by kernel_rfl
theorem es74 : teqS Tryd.prog 74 = none := by kernel_rfl
theorem el74 : tel Tryd.prog 74 = some (some 5, 1) := by kernel_rfl
theorem ln74 : tlen Tryd.prog 74 = some (.arr 5) := by kernel_rfl
theorem sz75 : tsz Tryd.prog 75 = some 1 := by kernel_rfl
theorem ag75 : tag Tryd.prog 75 = some none := by kernel_rfl
theorem zc75 : tzc Tryd.prog 75 = some [.nilFunc] := by kernel_rfl
theorem sr75 : tsrc Tryd.prog 75 = true := by kernel_rfl
theorem sz76 : tsz Tryd.prog 76 = some 1 := by kernel_rfl
theorem ag76 : tag Tryd.prog 76 = some none := by kernel_rfl
theorem zc76 : tzc Tryd.prog 76 = some [(.map none)] := by kernel_rfl
theorem sr76 : tsrc Tryd.prog 76 = true := by kernel_rfl
theorem ln76 : tlen Tryd.prog 76 = some .map := by kernel_rfl
theorem mk76 : tmk Tryd.prog 76 = some (true, .nilFunc) := by kernel_rfl
theorem sz77 : tsz Tryd.prog 77 = some 1 := by kernel_rfl
theorem ag77 : tag Tryd.prog 77 = some none := by kernel_rfl
theorem zc77 : tzc Tryd.prog 77 = some [.nilFunc] := by kernel_rfl
theorem sr77 : tsrc Tryd.prog 77 = true := by kernel_rfl
theorem sz78 : tsz Tryd.prog 78 = some 1 := by kernel_rfl
theorem ag78 : tag Tryd.prog 78 = some none := by kernel_rfl
theorem zc78 : tzc Tryd.prog 78 = some [.nilFunc] := by kernel_rfl
theorem sr78 : tsrc Tryd.prog 78 = true := by kernel_rfl
theorem sz79 : tsz Tryd.prog 79 = some 1 := by kernel_rfl
theorem ag79 : tag Tryd.prog 79 = some none := by kernel_rfl
theorem zc79 : tzc Tryd.prog 79 = some [.nilFunc] := by kernel_rfl
theorem sr79 : tsrc Tryd.prog 79 = true := by kernel_rfl
theorem sz80 : tsz Tryd.prog 80 = some 1 := by kernel_rfl
theorem ag80 : tag Tryd.prog 80 = some none := by kernel_rfl
theorem zc80 : tzc Tryd.prog 80 = some [.nilFunc] := by kernel_rfl
theorem sr80 : tsrc Tryd.prog 80 = true := by kernel_rfl
theorem sz81 : tsz Tryd.prog 81 = some 1 := by kernel_rfl
theorem ag81 : tag Tryd.prog 81 = some none := by kernel_rfl
theorem zc81 : tzc Tryd.prog 81 = some [.nilFunc] := by kernel_rfl
theorem sr81 : tsrc Tryd.prog 81 = true := by kernel_rfl
theorem sz82 : tsz Tryd.prog 82 = some 1 := by kernel_rfl
theorem ag82 : tag Tryd.prog 82 = some none := by kernel_rfl
theorem zc82 : tzc Tryd.prog 82 = some [.nilFunc] := by kernel_rfl
theorem sr82 : tsrc Tryd.prog 82 = true := by kernel_rfl
theorem sz83 : tsz Tryd.prog 83 = some 1 := by kernel_rfl
theorem ag83 : tag Tryd.prog 83 = some none := by kernel_rfl
theorem zc83 : tzc Tryd.prog 83 = some [.nilFunc] := by kernel_rfl
theorem sr83 : tsrc Tryd.prog 83 = true := by kernel_rfl
theorem sz84 : tsz Tryd.prog 84 = some 1 := by kernel_rfl
theorem ag84 : tag Tryd.prog 84 = some none := by kernel_rfl
theorem zc84 : tzc Tryd.prog 84 = some [.nilFunc] := by kernel_rfl
theorem sr84 : tsrc Tryd.prog 84 = true := by kernel_rfl
theorem sz85 : tsz Tryd.prog 85 = some 1 := by kernel_rfl
theorem ag85 : tag Tryd.prog 85 = some none := by kernel_rfl
theorem zc85 : tzc Tryd.prog 85 = some [.nilFunc] := by kernel_rfl
theorem sr85 : tsrc Tryd.prog 85 = true := by kernel_rfl
theorem sz86 : tsz Tryd.prog 86 = some 1 := by kernel_rfl
theorem ag86 : tag Tryd.prog 86 = some none := by kernel_rfl
theorem zc86 : tzc Tryd.prog 86 = some [.nilFunc] := by kernel_rfl
theorem sr86 : tsrc Tryd.prog 86 = true := by kernel_rfl
theorem sz87 : tsz Tryd.prog 87 = some 1 := by kernel_rfl
theorem ag87 : tag Tryd.prog 87 = some none := by kernel_rfl
theorem zc87 : tzc Tryd.prog 87 = some [.nilFunc] := by kernel_rfl
theorem sr87 : tsrc Tryd.prog 87 = true := by kernel_rfl
theorem sz88 : tsz Tryd.prog 88 = some 1 := by kernel_rfl
theorem ag88 : tag Tryd.prog 88 = some none := by kernel_rfl
theorem zc88 : tzc Tryd.prog 88 = some [.nilFunc] := by kernel_rfl
theorem sr88 : tsrc Tryd.prog 88 = true := by kernel_rfl
theorem sz89 : tsz Tryd.prog 89 = some 6 := by kernel_rfl
theorem ag89 : tag Tryd.prog 89 = some (some 6) := by kernel_rfl
theorem zc89 : tzc Tryd.prog 89 = some [(.int .i64 0), (.int .i64 0), (.int .i64 0), (.str ⟨#[]⟩), (.sl [] .full), (.int .i64 0)] := by kernel_rfl
theorem sr89 : tsrc Tryd.prog 89 = true := by kernel_rfl
theorem fd89_0 : tfd Tryd.prog 89 0 = some (0, 26) := by kernel_rfl
theorem fo89_0 : tfo Tryd.prog 89 0 = some 0 := by kernel_rfl
theorem fd89_1 : tfd Tryd.prog 89 1 = some (5, 3) := by kernel_rfl
theorem fo89_1 : tfo Tryd.prog 89 1 = some 5 := by kernel_rfl
theorem pl89 : tpl Tryd.prog 89 = some [(0, 5), (5, 1)] := by kernel_rfl
theorem bd89 (ps : List (Nat × AV)) (K : AV → Prop) : aBuild Tryd.prog 89 ps K = aBld (tpl Tryd.prog 89) (tzc Tryd.prog 89) ps K := aBuild_eq (by rw [pl89]; rfl) ps K
theorem sz90 : tsz Tryd.prog 90 = some 6 := by kernel_rfl
theorem ag90 : tag Tryd.prog 90 = some (some 6) := by kernel_rfl
theorem zc90 : tzc Tryd.prog 90 = some [(.int .i64 0), (.int .i64 0), (.int .i64 0), (.str ⟨#[]⟩), (.sl [] .full), (.int .i64 0)] := by kernel_rfl
theorem sr90 : tsrc Tryd.prog 90 = true := by kernel_rfl
theorem fd90_0 : tfd Tryd.prog 90 0 = some (0, 26) := by kernel_rfl
theorem fo90_0 : tfo Tryd.prog 90 0 = some 0 := by kernel_rfl
theorem fd90_1 : tfd Tryd.prog 90 1 = some (5, 3) := by kernel_rfl
theorem fo90_1 : tfo Tryd.prog 90 1 = some 5 := by kernel_rfl
theorem pl90 : tpl Tryd.prog 90 = some [(0, 5), (5, 1)] := by kernel_rfl
theorem bd90 (ps : List (Nat × AV)) (K : AV → Prop) : aBuild Tryd.prog 90 ps K = aBld (tpl Tryd.prog 90) (tzc Tryd.prog 90) ps K := aBuild_eq (by rw [pl90]; rfl) ps K
theorem ni90 : tni Tryd.prog 90 = true := by kernel_rfl
theorem ta90 : tas Tryd.prog 90 = some (.agg [(.int .i64 0), (.int .i64 0), (.int .i64 0), (.str ⟨#[]⟩), (.sl [] .full), (.int .i64 0)]) := by kernel_rfl
theorem sz91 : tsz Tryd.prog 91 = some 1 := by kernel_rfl
theorem ag91 : tag Tryd.prog 91 = some none := by kernel_rfl
theorem zc91 : tzc Tryd.prog 91 = some [.nilFunc] := by kernel_rfl
theorem sr91 : tsrc Tryd.prog 91 = true := by kernel_rfl
theorem sz92 : tsz Tryd.prog 92 = some 1 := by kernel_rfl
theorem ag92 : tag Tryd.prog 92 = some none := by kernel_rfl
theorem zc92 : tzc Tryd.prog 92 = some [.nilFunc] := by kernel_rfl
theorem sr92 : tsrc Tryd.prog 92 = true := by kernel_rfl
theorem sz93 : tsz Tryd.prog 93 = some 1 := by kernel_rfl
theorem ag93 : tag Tryd.prog 93 = some none := by kernel_rfl
theorem zc93 : tzc Tryd.prog 93 = some [.nilFunc] := by kernel_rfl
theorem sr93 : tsrc Tryd.prog 93 = true := by kernel_rfl
theorem sz94 : tsz Tryd.prog 94 = some 1 := by kernel_rfl
theorem ag94 : tag Tryd.prog 94 = some none := by kernel_rfl
theorem zc94 : tzc Tryd.prog 94 = some [.nilFunc] := by kernel_rfl
theorem sr94 : tsrc Tryd.prog 94 = true := by kernel_rfl
theorem sz95 : tsz Tryd.prog 95 = some 1 := by kernel_rfl
theorem ag95 : tag Tryd.prog 95 = some none := by kernel_rfl
theorem zc95 : tzc Tryd.prog 95 = some [.nilFunc] := by kernel_rfl
theorem sr95 : tsrc Tryd.prog 95 = true := by kernel_rfl
theorem sz96 : tsz Tryd.prog 96 = some 1 := by kernel_rfl
theorem ag96 : tag Tryd.prog 96 = some none := by kernel_rfl
theorem zc96 : tzc Tryd.prog 96 = some [.nilFunc] := by kernel_rfl
theorem sr96 : tsrc Tryd.prog 96 = true := by kernel_rfl
theorem sz97 : tsz Tryd.prog 97 = some 1 := by kernel_rfl
theorem ag97 : tag Tryd.prog 97 = some none := by kernel_rfl
theorem zc97 : tzc Tryd.prog 97 = some [.nilFunc] := by kernel_rfl
theorem sr97 : tsrc Tryd.prog 97 = true := by kernel_rfl
theorem sz98 : tsz Tryd.prog 98 = some 1 := by kernel_rfl
theorem ag98 : tag Tryd.prog 98 = some none := by kernel_rfl
theorem zc98 : tzc Tryd.prog 98 = some [.nilFunc] := by kernel_rfl
theorem sr98 : tsrc Tryd.prog 98 = true := by kernel_rfl
theorem sz99 : tsz Tryd.prog 99 = some 1 := by kernel_rfl
theorem ag99 : tag Tryd.prog 99 = some (some 1) := by kernel_rfl
theorem zc99 : tzc Tryd.prog 99 = some [(.int .i64 0)] := by kernel_rfl
theorem sr99 : tsrc Tryd.prog 99 = true := by kernel_rfl
theorem fd99_0 : tfd Tryd.prog 99 0 = some (0, 33) := by kernel_rfl
theorem fo99_0 : tfo Tryd.prog 99 0 = some 0 := by kernel_rfl
theorem pl99 : tpl Tryd.prog 99 = some [(0, 1)] := by kernel_rfl
theorem bd99 (ps : List (Nat × AV)) (K : AV → Prop) : aBuild Tryd.prog 99 ps K = aBld (tpl Tryd.prog 99) (tzc Tryd.prog 99) ps K := aBuild_eq (by rw [pl99]; rfl) ps K
theorem sz100 : tsz Tryd.prog 100 = some 1 := by kernel_rfl
theorem ag100 : tag Tryd.prog 100 = some (some 1) := by kernel_rfl
theorem zc100 : tzc Tryd.prog 100 = some [(.int .i64 0)] := by kernel_rfl
theorem sr100 : tsrc Tryd.prog 100 = true := by kernel_rfl
theorem fd100_0 : tfd Tryd.prog 100 0 = some (0, 33) := by kernel_rfl
theorem fo100_0 : tfo Tryd.prog 100 0 = some 0 := by kernel_rfl
theorem pl100 : tpl Tryd.prog 100 = some [(0, 1)] := by kernel_rfl
theorem bd100 (ps : List (Nat × AV)) (K : AV → Prop) : aBuild Tryd.prog 100 ps K = aBld (tpl Tryd.prog 100) (tzc Tryd.prog 100) ps K := aBuild_eq (by rw [pl100]; rfl) ps K
theorem es100 : teqS Tryd.prog 100 = some [(0, .int)] := by kernel_rfl
theorem ni100 : tni Tryd.prog 100 = true := by kernel_rfl
theorem ta100 : tas Tryd.prog 100 = some (.agg [(.int .i64 0)]) := by kernel_rfl
theorem sz102 : tsz Tryd.prog 102 = some 1 := by kernel_rfl
theorem ag102 : tag Tryd.prog 102 = some none := by kernel_rfl
theorem zc102 : tzc Tryd.prog 102 = some [.nilFunc] := by kernel_rfl
theorem sr102 : tsrc Tryd.prog 102 = true := by kernel_rfl
theorem sz103 : tsz Tryd.prog 103 = some 1 := by kernel_rfl
theorem ag103 : tag Tryd.prog 103 = some none := by kernel_rfl
theorem zc103 : tzc Tryd.prog 103 = some [.nilFunc] := by kernel_rfl
theorem sr103 : tsrc Tryd.prog 103 = true := by kernel_rfl
theorem sz104 : tsz Tryd.prog 104 = some 1 := by kernel_rfl
theorem ag104 : tag Tryd.prog 104 = some none := by kernel_rfl
theorem zc104 : tzc Tryd.prog 104 = some [.nilFunc] := by kernel_rfl
theorem sr104 : tsrc Tryd.prog 104 = true := by kernel_rfl
theorem sz105 : tsz Tryd.prog 105 = some 1 := by kernel_rfl
theorem ag105 : tag Tryd.prog 105 = some none := by kernel_rfl
theorem zc105 : tzc Tryd.prog 105 = some [.nilFunc] := by kernel_rfl
theorem sr105 : tsrc Tryd.prog 105 = true := by kernel_rfl
theorem sz106 : tsz Tryd.prog 106 = some 1 := by kernel_rfl
theorem ag106 : tag Tryd.prog 106 = some none := by kernel_rfl
theorem zc106 : tzc Tryd.prog 106 = some [.nilFunc] := by kernel_rfl
theorem sr106 : tsrc Tryd.prog 106 = true := by kernel_rfl
theorem sz107 : tsz Tryd.prog 107 = some 1 := by kernel_rfl
theorem ag107 : tag Tryd.prog 107 = some none := by kernel_rfl
theorem zc107 : tzc Tryd.prog 107 = some [.nilFunc] := by kernel_rfl
theorem sr107 : tsrc Tryd.prog 107 = true := by kernel_rfl
theorem sz108 : tsz Tryd.prog 108 = some 5 := by kernel_rfl
theorem ag108 : tag Tryd.prog 108 = some (some 5) := by kernel_rfl
theorem zc108 : tzc Tryd.prog 108 = some [.nilFunc, .nilFunc, .nilFunc, .nilFunc, .nilFunc] := by kernel_rfl
theorem sr108 : tsrc Tryd.prog 108 = true := by kernel_rfl
theorem es108 : teqS Tryd.prog 108 = none := by kernel_rfl
theorem el108 : tel Tryd.prog 108 = some (some 5, 1) := by kernel_rfl
theorem ln108 : tlen Tryd.prog 108 = some (.arr 5) := by kernel_rfl
theorem sz109 : tsz Tryd.prog 109 = some 1 := by kernel_rfl
theorem ag109 : tag Tryd.prog 109 = some none := by kernel_rfl
theorem zc109 : tzc Tryd.prog 109 = some [.nilFunc] := by kernel_rfl
theorem sr109 : tsrc Tryd.prog 109 = true := by kernel_rfl
theorem sz110 : tsz Tryd.prog 110 = some 1 := by kernel_rfl
theorem ag110 : tag Tryd.prog 110 = some none := by kernel_rfl
theorem zc110 : tzc Tryd.prog 110 = some [.nilFunc] := by kernel_rfl
theorem sr110 : tsrc Tryd.prog 110 = true := by kernel_rfl
theorem sz112 : tsz Tryd.prog 112 = some 1 := by kernel_rfl
theorem ag112 : tag Tryd.prog 112 = some none := by kernel_rfl
theorem zc112 : tzc Tryd.prog 112 = some [.nilFunc] := by kernel_rfl
theorem sr112 : tsrc Tryd.prog 112 = true := by kernel_rfl
theorem sz113 : tsz Tryd.prog 113 = some 1 := by kernel_rfl
theorem ag113 : tag Tryd.prog 113 = some none := by kernel_rfl
theorem zc113 : tzc Tryd.prog 113 = some [(.int .u64 0)] := by kernel_rfl
theorem sr113 : tsrc Tryd.prog 113 = false := by kernel_rfl
theorem sz114 : tsz Tryd.prog 114 = some 1 := by kernel_rfl
theorem ag114 : tag Tryd.prog 114 = some none := by kernel_rfl
theorem zc114 : tzc Tryd.prog 114 = some [.nilFunc] := by kernel_rfl
theorem sr114 : tsrc Tryd.prog 114 = true := by kernel_rfl
theorem sz115 : tsz Tryd.prog 115 = some 1 := by kernel_rfl
theorem ag115 : tag Tryd.prog 115 = some none := by kernel_rfl
theorem zc115 : tzc Tryd.prog 115 = some [.nilFunc] := by kernel_rfl
theorem sr115 : tsrc Tryd.prog 115 = true := by kernel_rfl
theorem sz116 : tsz Tryd.prog 116 = some 1 := by kernel_rfl
theorem ag116 : tag Tryd.prog 116 = some none := by kernel_rfl
theorem zc116 : tzc Tryd.prog 116 = some [.nilFunc] := by kernel_rfl
theorem sr116 : tsrc Tryd.prog 116 = true := by kernel_rfl
theorem sz117 : tsz Tryd.prog 117 = some 1 := by kernel_rfl
theorem ag117 : tag Tryd.prog 117 = some none := by kernel_rfl
theorem zc117 : tzc Tryd.prog 117 = some [.nilFunc] := by kernel_rfl
theorem sr117 : tsrc Tryd.prog 117 = true := by kernel_rfl
theorem sz118 : tsz Tryd.prog 118 = some 1 := by kernel_rfl
theorem ag118 : tag Tryd.prog 118 = some none := by kernel_rfl
theorem zc118 : tzc Tryd.prog 118 = some [.nilFunc] := by kernel_rfl
theorem sr118 : tsrc Tryd.prog 118 = true := by kernel_rfl
theorem sz119 : tsz Tryd.prog 119 = some 4 := by kernel_rfl
theorem ag119 : tag Tryd.prog 119 = some (some 4) := by kernel_rfl
theorem zc119 : tzc Tryd.prog 119 = some [(.ptr none), (.ptr none), (.ptr none), (.str ⟨#[]⟩)] := by kernel_rfl
theorem sr119 : tsrc Tryd.prog 119 = true := by kernel_rfl
theorem fd119_0 : tfd Tryd.prog 119 0 = some (0, 17) := by kernel_rfl
theorem fo119_0 : tfo Tryd.prog 119 0 = some 0 := by kernel_rfl
theorem fd119_1 : tfd Tryd.prog 119 1 = some (1, 17) := by kernel_rfl
theorem fo119_1 : tfo Tryd.prog 119 1 = some 1 := by kernel_rfl
theorem fd119_2 : tfd Tryd.prog 119 2 = some (2, 17) := by kernel_rfl
theorem fo119_2 : tfo Tryd.prog 119 2 = some 2 := by kernel_rfl
theorem fd119_3 : tfd Tryd.prog 119 3 = some (3, 9) := by kernel_rfl
theorem fo119_3 : tfo Tryd.prog 119 3 = some 3 := by kernel_rfl
theorem pl119 : tpl Tryd.prog 119 = some [(0, 1), (1, 1), (2, 1), (3, 1)] := by kernel_rfl
theorem bd119 (ps : List (Nat × AV)) (K : AV → Prop) : aBuild Tryd.prog 119 ps K = aBld (tpl Tryd.prog 119) (tzc Tryd.prog 119) ps K := aBuild_eq (by rw [pl119]; rfl) ps K
theorem sz120 : tsz Tryd.prog 120 = some 4 := by kernel_rfl
theorem ag120 : tag Tryd.prog 120 = some (some 4) := by kernel_rfl
theorem zc120 : tzc Tryd.prog 120 = some [(.ptr none), (.ptr none), (.ptr none), (.str ⟨#[]⟩)] := by kernel_rfl
theorem sr120 : tsrc Tryd.prog 120 = true := by kernel_rfl
theorem fd120_0 : tfd Tryd.prog 120 0 = some (0, 17) := by kernel_rfl
theorem fo120_0 : tfo Tryd.prog 120 0 = some 0 := by kernel_rfl
theorem fd120_1 : tfd Tryd.prog 120 1 = some (1, 17) := by kernel_rfl
theorem fo120_1 : tfo Tryd.prog 120 1 = some 1 := by kernel_rfl
theorem fd120_2 : tfd Tryd.prog 120 2 = some (2, 17) := by kernel_rfl
theorem fo120_2 : tfo Tryd.prog 120 2 = some 2 := by kernel_rfl
theorem fd120_3 : tfd Tryd.prog 120 3 = some (3, 9) := by kernel_rfl
theorem fo120_3 : tfo Tryd.prog 120 3 = some 3 := by kernel_rfl
theorem pl120 : tpl Tryd.prog 120 = some [(0, 1), (1, 1), (2, 1), (3, 1)] := by kernel_rfl
theorem bd120 (ps : List (Nat × AV)) (K : AV → Prop) : aBuild Tryd.prog 120 ps K = aBld (tpl Tryd.prog 120) (tzc Tryd.prog 120) ps K := aBuild_eq (by rw [pl120]; rfl) ps K
theorem ni120 : tni Tryd.prog 120 = true := by kernel_rfl
theorem ta120 : tas Tryd.prog 120 = some (.agg [(.ptr none), (.ptr none), (.ptr none), (.str ⟨#[]⟩)]) := by kernel_rfl
theorem sz121 : tsz Tryd.prog 121 = some 0 := by kernel_rfl
theorem ag121 : tag Tryd.prog 121 = some (some 0) := by kernel_rfl
theorem zc121 : tzc Tryd.prog 121 = some [] := by kernel_rfl
theorem sr121 : tsrc Tryd.prog 121 = true := by kernel_rfl
theorem es121 : teqS Tryd.prog 121 = none := by kernel_rfl
theorem el121 : tel Tryd.prog 121 = some (some 0, 1) := by kernel_rfl
theorem ln121 : tlen Tryd.prog 121 = some (.arr 0) := by kernel_rfl
theorem sz122 : tsz Tryd.prog 122 = some 0 := by kernel_rfl
theorem ag122 : tag Tryd.prog 122 = some (some 0) := by kernel_rfl
theorem zc122 : tzc Tryd.prog 122 = some [] := by kernel_rfl
theorem sr122 : tsrc Tryd.prog 122 = true := by kernel_rfl
theorem fd122_0 : tfd Tryd.prog 122 0 = some (0, 121) := by kernel_rfl
theorem pl122 : tpl Tryd.prog 122 = some [(0, 0)] := by kernel_rfl
theorem bd122 (ps : List (Nat × AV)) (K : AV → Prop) : aBuild Tryd.prog 122 ps K = aBld (tpl Tryd.prog 122) (tzc Tryd.prog 122) ps K := aBuild_eq (by rw [pl122]; rfl) ps K
theorem sz123 : tsz Tryd.prog 123 = some 0 := by kernel_rfl
theorem ag123 : tag Tryd.prog 123 = some (some 0) := by kernel_rfl
theorem zc123 : tzc Tryd.prog 123 = some [] := by kernel_rfl
theorem sr123 : tsrc Tryd.prog 123 = true := by kernel_rfl
theorem fd123_0 : tfd Tryd.prog 123 0 = some (0, 121) := by kernel_rfl
theorem pl123 : tpl Tryd.prog 123 = some [(0, 0)] := by kernel_rfl
theorem bd123 (ps : List (Nat × AV)) (K : AV → Prop) : aBuild Tryd.prog 123 ps K = aBld (tpl Tryd.prog 123) (tzc Tryd.prog 123) ps K := aBuild_eq (by rw [pl123]; rfl) ps K
theorem ni123 : tni Tryd.prog 123 = true := by kernel_rfl
theorem ta123 : tas Tryd.prog 123 = some (.agg []) := by kernel_rfl
theorem sz124 : tsz Tryd.prog 124 = some 1 := by kernel_rfl
theorem ag124 : tag Tryd.prog 124 = some none := by kernel_rfl
theorem zc124 : tzc Tryd.prog 124 = some [.nilFunc] := by kernel_rfl
theorem sr124 : tsrc Tryd.prog 124 = true := by kernel_rfl
theorem sz125 : tsz Tryd.prog 125 = some 1 := by kernel_rfl
theorem ag125 : tag Tryd.prog 125 = some none := by kernel_rfl
theorem zc125 : tzc Tryd.prog 125 = some [(.int .u32 0)] := by kernel_rfl
theorem sr125 : tsrc Tryd.prog 125 = false := by kernel_rfl
theorem sz126 : tsz Tryd.prog 126 = some 1 := by kernel_rfl
theorem ag126 : tag Tryd.prog 126 = some none := by kernel_rfl
theorem zc126 : tzc Tryd.prog 126 = some [(.int .u8 0)] := by kernel_rfl
theorem sr126 : tsrc Tryd.prog 126 = false := by kernel_rfl
theorem ni126 : tni Tryd.prog 126 = true := by kernel_rfl
theorem ta126 : tas Tryd.prog 126 = some (.int .u8 0) := by kernel_rfl
theorem sz127 : tsz Tryd.prog 127 = some 1 := by kernel_rfl
theorem ag127 : tag Tryd.prog 127 = some none := by kernel_rfl
theorem zc127 : tzc Tryd.prog 127 = some [(.int .u8 0)] := by kernel_rfl
theorem sr127 : tsrc Tryd.prog 127 = false := by kernel_rfl
theorem ni127 : tni Tryd.prog 127 = true := by kernel_rfl
theorem ta127 : tas Tryd.prog 127 = some (.int .u8 0) := by kernel_rfl
theorem sz128 : tsz Tryd.prog 128 = some 1 := by kernel_rfl
theorem ag128 : tag Tryd.prog 128 = some none := by kernel_rfl
theorem zc128 : tzc Tryd.prog 128 = some [.nilFunc] := by kernel_rfl
theorem sr128 : tsrc Tryd.prog 128 = true := by kernel_rfl
theorem sz129 : tsz Tryd.prog 129 = some 1 := by kernel_rfl
theorem ag129 : tag Tryd.prog 129 = some none := by kernel_rfl
theorem zc129 : tzc Tryd.prog 129 = some [(.ptr none)] := by kernel_rfl
theorem sr129 : tsrc Tryd.prog 129 = true := by kernel_rfl
theorem ni129 : tni Tryd.prog 129 = true := by kernel_rfl
theorem ta129 : tas Tryd.prog 129 = some (.ptr none) := by kernel_rfl
theorem sz130 : tsz Tryd.prog 130 = some 1 := by kernel_rfl
theorem ag130 : tag Tryd.prog 130 = some none := by kernel_rfl
theorem zc130 : tzc Tryd.prog 130 = some [(.int .i32 0)] := by kernel_rfl
theorem sr130 : tsrc Tryd.prog 130 = false := by kernel_rfl
theorem ni130 : tni Tryd.prog 130 = true := by kernel_rfl
theorem ta130 : tas Tryd.prog 130 = some (.int .i32 0) := by kernel_rfl
theorem sz131 : tsz Tryd.prog 131 = some 1 := by kernel_rfl
theorem ag131 : tag Tryd.prog 131 = some none := by kernel_rfl
theorem zc131 : tzc Tryd.prog 131 = some [(.int .i32 0)] := by kernel_rfl
theorem sr131 : tsrc Tryd.prog 131 = false := by kernel_rfl
theorem ni131 : tni Tryd.prog 131 = true := by kernel_rfl
theorem ta131 : tas Tryd.prog 131 = some (.int .i32 0) := by kernel_rfl
theorem sz132 : tsz Tryd.prog 132 = some 11 := by kernel_rfl
theorem ag132 : tag Tryd.prog 132 = some (some 11) := by kernel_rfl
theorem zc132 : tzc Tryd.prog 132 = some [(.int .u64 0), (.int .u64 0), (.int .u32 0), (.int .u8 0), (.int .u8 0), (.int .u8 0), (.int .u8 0), .nilFunc, (.ptr none), (.int .i32 0), (.int .i32 0)] := by kernel_rfl
theorem sr132 : tsrc Tryd.prog 132 = true := by kernel_rfl
theorem fd132_0 : tfd Tryd.prog 132 0 = some (0, 12) := by kernel_rfl
theorem fo132_0 : tfo Tryd.prog 132 0 = some 0 := by kernel_rfl
theorem fd132_1 : tfd Tryd.prog 132 1 = some (1, 12) := by kernel_rfl
theorem fo132_1 : tfo Tryd.prog 132 1 = some 1 := by kernel_rfl
theorem fd132_2 : tfd Tryd.prog 132 2 = some (2, 125) := by kernel_rfl
theorem fo132_2 : tfo Tryd.prog 132 2 = some 2 := by kernel_rfl
theorem fd132_3 : tfd Tryd.prog 132 3 = some (3, 126) := by kernel_rfl
theorem fo132_3 : tfo Tryd.prog 132 3 = some 3 := by kernel_rfl
theorem fd132_4 : tfd Tryd.prog 132 4 = some (4, 5) := by kernel_rfl
theorem fo132_4 : tfo Tryd.prog 132 4 = some 4 := by kernel_rfl
theorem fd132_5 : tfd Tryd.prog 132 5 = some (5, 5) := by kernel_rfl
theorem fo132_5 : tfo Tryd.prog 132 5 = some 5 := by kernel_rfl
theorem fd132_6 : tfd Tryd.prog 132 6 = some (6, 127) := by kernel_rfl
theorem fo132_6 : tfo Tryd.prog 132 6 = some 6 := by kernel_rfl
theorem fd132_7 : tfd Tryd.prog 132 7 = some (7, 128) := by kernel_rfl
theorem fo132_7 : tfo Tryd.prog 132 7 = some 7 := by kernel_rfl
theorem fd132_8 : tfd Tryd.prog 132 8 = some (8, 129) := by kernel_rfl
theorem fo132_8 : tfo Tryd.prog 132 8 = some 8 := by kernel_rfl
theorem fd132_9 : tfd Tryd.prog 132 9 = some (9, 130) := by kernel_rfl
theorem fo132_9 : tfo Tryd.prog 132 9 = some 9 := by kernel_rfl
theorem fd132_10 : tfd Tryd.prog 132 10 = some (10, 131) := by kernel_rfl
theorem fo132_10 : tfo Tryd.prog 132 10 = some 10 := by kernel_rfl
theorem pl132 : tpl Tryd.prog 132 = some [(0, 1), (1, 1), (2, 1), (3, 1), (4, 1), (5, 1), (6, 1), (7, 1), (8, 1), (9, 1), (10, 1)] := by kernel_rfl
theorem bd132 (ps : List (Nat × AV)) (K : AV → Prop) : aBuild Tryd.prog 132 ps K = aBld (tpl Tryd.prog 132) (tzc Tryd.prog 132) ps K := aBuild_eq (by rw [pl132]; rfl) ps K
theorem sz133 : tsz Tryd.prog 133 = some 11 := by kernel_rfl
theorem ag133 : tag Tryd.prog 133 = some (some 11) := by kernel_rfl
theorem zc133 : tzc Tryd.prog 133 = some [(.int .u64 0), (.int .u64 0), (.int .u32 0), (.int .u8 0), (.int .u8 0), (.int .u8 0), (.int .u8 0), .nilFunc, (.ptr none), (.int .i32 0), (.int .i32 0)] := by kernel_rfl
theorem sr133 : tsrc Tryd.prog 133 = true := by kernel_rfl
theorem fd133_0 : tfd Tryd.prog 133 0 = some (0, 12) := by kernel_rfl
theorem fo133_0 : tfo Tryd.prog 133 0 = some 0 := by kernel_rfl
theorem fd133_1 : tfd Tryd.prog 133 1 = some (1, 12) := by kernel_rfl
theorem fo133_1 : tfo Tryd.prog 133 1 = some 1 := by kernel_rfl
theorem fd133_2 : tfd Tryd.prog 133 2 = some (2, 125) := by kernel_rfl
theorem fo133_2 : tfo Tryd.prog 133 2 = some 2 := by kernel_rfl
theorem fd133_3 : tfd Tryd.prog 133 3 = some (3, 126) := by kernel_rfl
theorem fo133_3 : tfo Tryd.prog 133 3 = some 3 := by kernel_rfl
theorem fd133_4 : tfd Tryd.prog 133 4 = some (4, 5) := by kernel_rfl
theorem fo133_4 : tfo Tryd.prog 133 4 = some 4 := by kernel_rfl
theorem fd133_5 : tfd Tryd.prog 133 5 = some (5, 5) := by kernel_rfl
theorem fo133_5 : tfo Tryd.prog 133 5 = some 5 := by kernel_rfl
theorem fd133_6 : tfd Tryd.prog 133 6 = some (6, 127) := by kernel_rfl
theorem fo133_6 : tfo Tryd.prog 133 6 = some 6 := by kernel_rfl
theorem fd133_7 : tfd Tryd.prog 133 7 = some (7, 128) := by kernel_rfl
theorem fo133_7 : tfo Tryd.prog 133 7 = some 7 := by kernel_rfl
theorem fd133_8 : tfd Tryd.prog 133 8 = some (8, 129) := by kernel_rfl
theorem fo133_8 : tfo Tryd.prog 133 8 = some 8 := by kernel_rfl
theorem fd133_9 : tfd Tryd.prog 133 9 = some (9, 130) := by kernel_rfl
theorem fo133_9 : tfo Tryd.prog 133 9 = some 9 := by kernel_rfl
theorem fd133_10 : tfd Tryd.prog 133 10 = some (10, 131) := by kernel_rfl
theorem fo133_10 : tfo Tryd.prog 133 10 = some 10 := by kernel_rfl
theorem pl133 : tpl Tryd.prog 133 = some [(0, 1), (1, 1), (2, 1), (3, 1), (4, 1), (5, 1), (6, 1), (7, 1), (8, 1), (9, 1), (10, 1)] := by kernel_rfl
theorem bd133 (ps : List (Nat × AV)) (K : AV → Prop) : aBuild Tryd.prog 133 ps K = aBld (tpl Tryd.prog 133) (tzc Tryd.prog 133) ps K := aBuild_eq (by rw [pl133]; rfl) ps K
theorem ni133 : tni Tryd.prog 133 = true := by kernel_rfl
theorem ta133 : tas Tryd.prog 133 = some (.agg [(.int .u64 0), (.int .u64 0), (.int .u32 0), (.int .u8 0), (.int .u8 0), (.int .u8 0), (.int .u8 0), .nilFunc, (.ptr none), (.int .i32 0), (.int .i32 0)]) := by kernel_rfl
theorem sz134 : tsz Tryd.prog 134 = some 1 := by kernel_rfl
theorem ag134 : tag Tryd.prog 134 = some none := by kernel_rfl
theorem zc134 : tzc Tryd.prog 134 = some [(.ptr none)] := by kernel_rfl
theorem sr134 : tsrc Tryd.prog 134 = true := by kernel_rfl
theorem mu65 : tmkey Tryd.prog 65 = some true := by kernel_rfl
theorem mu76 : tmkey Tryd.prog 76 = some true := by kernel_rfl
theorem mq65 : mks Tryd.prog 65 = none := by kernel_rfl
theorem mq76 : mks Tryd.prog 76 = none := by kernel_rfl
theorem ar74 : tarr Tryd.prog 74 = some (5, 1) := by kernel_rfl
theorem ia74 (cs : List AV) (k : IntKind) (n : Int) (K : AV → Prop) : aIndex Tryd.prog 74 (.agg cs) (.int k n) K = (0 ≤ n ∧ n < 5 ∧ aLd Tryd.prog 73 (cs.drop (n.toNat * 1)) K) := aIndex_arr (by kernel_rfl) (by kernel_rfl) cs k n K
theorem ba74 (ps : List (Nat × AV)) (K : AV → Prop) : aBuild Tryd.prog 74 ps K = aBldA (tarr Tryd.prog 74) (tzc Tryd.prog 74) ps K := aBuildA_eq (by rw [ar74]; rfl) ps K
theorem ar108 : tarr Tryd.prog 108 = some (5, 1) := by kernel_rfl
theorem ia108 (cs : List AV) (k : IntKind) (n : Int) (K : AV → Prop) : aIndex Tryd.prog 108 (.agg cs) (.int k n) K = (0 ≤ n ∧ n < 5 ∧ aLd Tryd.prog 58 (cs.drop (n.toNat * 1)) K) := aIndex_arr (by kernel_rfl) (by kernel_rfl) cs k n K
theorem ba108 (ps : List (Nat × AV)) (K : AV → Prop) : aBuild Tryd.prog 108 ps K = aBldA (tarr Tryd.prog 108) (tzc Tryd.prog 108) ps K := aBuildA_eq (by rw [ar108]; rfl) ps K
theorem ar121 : tarr Tryd.prog 121 = some (0, 1) := by kernel_rfl
theorem ia121 (cs : List AV) (k : IntKind) (n : Int) (K : AV → Prop) : aIndex Tryd.prog 121 (.agg cs) (.int k n) K = (0 ≤ n ∧ n < 0 ∧ aLd Tryd.prog 16 (cs.drop (n.toNat * 1)) K) := aIndex_arr (by kernel_rfl) (by kernel_rfl) cs k n K
theorem ba121 (ps : List (Nat × AV)) (K : AV → Prop) : aBuild Tryd.prog 121 ps K = aBldA (tarr Tryd.prog 121) (tzc Tryd.prog 121) ps K := aBuildA_eq (by rw [ar121]; rfl) ps K
theorem cv2_2 : tcv Tryd.prog 2 2 = some (some .i64) := by kernel_rfl
theorem cv2_3 : tcv Tryd.prog 2 3 = some (some .i64) := by kernel_rfl
theorem cv2_5 : tcv Tryd.prog 2 5 = some (some .u8) := by kernel_rfl
theorem cv2_6 : tcv Tryd.prog 2 6 = some (some .u8) := by kernel_rfl
theorem cv2_12 : tcv Tryd.prog 2 12 = some (some .u64) := by kernel_rfl
theorem cv2_21 : tcv Tryd.prog 2 21 = some (some .i32) := by kernel_rfl
theorem cv2_33 : tcv Tryd.prog 2 33 = some (some .i64) := by kernel_rfl
theorem cv2_113 : tcv Tryd.prog 2 113 = some (some .u64) := by kernel_rfl
theorem cv2_125 : tcv Tryd.prog 2 125 = some (some .u32) := by kernel_rfl
theorem cv2_126 : tcv Tryd.prog 2 126 = some (some .u8) := by kernel_rfl
theorem cv2_127 : tcv Tryd.prog 2 127 = some (some .u8) := by kernel_rfl
theorem cv2_130 : tcv Tryd.prog 2 130 = some (some .i32) := by kernel_rfl
theorem cv2_131 : tcv Tryd.prog 2 131 = some (some .i32) := by kernel_rfl
theorem cv3_2 : tcv Tryd.prog 3 2 = some (some .i64) := by kernel_rfl
theorem cv3_3 : tcv Tryd.prog 3 3 = some (some .i64) := by kernel_rfl
theorem cv3_5 : tcv Tryd.prog 3 5 = some (some .u8) := by kernel_rfl
theorem cv3_6 : tcv Tryd.prog 3 6 = some (some .u8) := by kernel_rfl
theorem cv3_12 : tcv Tryd.prog 3 12 = some (some .u64) := by kernel_rfl
theorem cv3_21 : tcv Tryd.prog 3 21 = some (some .i32) := by kernel_rfl
theorem cv3_33 : tcv Tryd.prog 3 33 = some (some .i64) := by kernel_rfl
theorem cv3_113 : tcv Tryd.prog 3 113 = some (some .u64) := by kernel_rfl
theorem cv3_125 : tcv Tryd.prog 3 125 = some (some .u32) := by kernel_rfl
theorem cv3_126 : tcv Tryd.prog 3 126 = some (some .u8) := by kernel_rfl
theorem cv3_127 : tcv Tryd.prog 3 127 = some (some .u8) := by kernel_rfl
theorem cv3_130 : tcv Tryd.prog 3 130 = some (some .i32) := by kernel_rfl
theorem cv3_131 : tcv Tryd.prog 3 131 = some (some .i32) := by kernel_rfl
theorem cv5_2 : tcv Tryd.prog 5 2 = some (some .i64) := by kernel_rfl
theorem cv5_3 : tcv Tryd.prog 5 3 = some (some .i64) := by kernel_rfl
theorem cv5_5 : tcv Tryd.prog 5 5 = some (some .u8) := by kernel_rfl
theorem cv5_6 : tcv Tryd.prog 5 6 = some (some .u8) := by kernel_rfl
theorem cv5_12 : tcv Tryd.prog 5 12 = some (some .u64) := by kernel_rfl
theorem cv5_21 : tcv Tryd.prog 5 21 = some (some .i32) := by kernel_rfl
theorem cv5_33 : tcv Tryd.prog 5 33 = some (some .i64) := by kernel_rfl
theorem cv5_113 : tcv Tryd.prog 5 113 = some (some .u64) := by kernel_rfl
theorem cv5_125 : tcv Tryd.prog 5 125 = some (some .u32) := by kernel_rfl
theorem cv5_126 : tcv Tryd.prog 5 126 = some (some .u8) := by kernel_rfl
theorem cv5_127 : tcv Tryd.prog 5 127 = some (some .u8) := by kernel_rfl
theorem cv5_130 : tcv Tryd.prog 5 130 = some (some .i32) := by kernel_rfl
theorem cv5_131 : tcv Tryd.prog 5 131 = some (some .i32) := by kernel_rfl
theorem cv6_2 : tcv Tryd.prog 6 2 = some (some .i64) := by kernel_rfl
theorem cv6_3 : tcv Tryd.prog 6 3 = some (some .i64) := by kernel_rfl
theorem cv6_5 : tcv Tryd.prog 6 5 = some (some .u8) := by kernel_rfl
theorem cv6_6 : tcv Tryd.prog 6 6 = some (some .u8) := by kernel_rfl
theorem cv6_12 : tcv Tryd.prog 6 12 = some (some .u64) := by kernel_rfl
theorem cv6_21 : tcv Tryd.prog 6 21 = some (some .i32) := by kernel_rfl
theorem cv6_33 : tcv Tryd.prog 6 33 = some (some .i64) := by kernel_rfl
theorem cv6_113 : tcv Tryd.prog 6 113 = some (some .u64) := by kernel_rfl
theorem cv6_125 : tcv Tryd.prog 6 125 = some (some .u32) := by kernel_rfl
theorem cv6_126 : tcv Tryd.prog 6 126 = some (some .u8) := by kernel_rfl
theorem cv6_127 : tcv Tryd.prog 6 127 = some (some .u8) := by kernel_rfl
theorem cv6_130 : tcv Tryd.prog 6 130 = some (some .i32) := by kernel_rfl
theorem cv6_131 : tcv Tryd.prog 6 131 = some (some .i32) := by kernel_rfl
theorem cv9_9 : tcv Tryd.prog 9 9 = some none := by kernel_rfl
theorem cv9_10 : tcv Tryd.prog 9 10 = some none := by kernel_rfl
theorem cv9_11 : tcv Tryd.prog 9 11 = some none := by kernel_rfl
theorem cv10_9 : tcv Tryd.prog 10 9 = some none := by kernel_rfl
theorem cv10_10 : tcv Tryd.prog 10 10 = some none := by kernel_rfl
theorem cv10_11 : tcv Tryd.prog 10 11 = some none := by kernel_rfl
theorem cv11_9 : tcv Tryd.prog 11 9 = some none := by kernel_rfl
theorem cv11_10 : tcv Tryd.prog 11 10 = some none := by kernel_rfl
theorem cv11_11 : tcv Tryd.prog 11 11 = some none := by kernel_rfl
theorem cv12_2 : tcv Tryd.prog 12 2 = some (some .i64) := by kernel_rfl
theorem cv12_3 : tcv Tryd.prog 12 3 = some (some .i64) := by kernel_rfl
theorem cv12_5 : tcv Tryd.prog 12 5 = some (some .u8) := by kernel_rfl
theorem cv12_6 : tcv Tryd.prog 12 6 = some (some .u8) := by kernel_rfl
theorem cv12_12 : tcv Tryd.prog 12 12 = some (some .u64) := by kernel_rfl
theorem cv12_21 : tcv Tryd.prog 12 21 = some (some .i32) := by kernel_rfl
theorem cv12_33 : tcv Tryd.prog 12 33 = some (some .i64) := by kernel_rfl
theorem cv12_113 : tcv Tryd.prog 12 113 = some (some .u64) := by kernel_rfl
theorem cv12_125 : tcv Tryd.prog 12 125 = some (some .u32) := by kernel_rfl
theorem cv12_126 : tcv Tryd.prog 12 126 = some (some .u8) := by kernel_rfl
theorem cv12_127 : tcv Tryd.prog 12 127 = some (some .u8) := by kernel_rfl
theorem cv12_130 : tcv Tryd.prog 12 130 = some (some .i32) := by kernel_rfl
theorem cv12_131 : tcv Tryd.prog 12 131 = some (some .i32) := by kernel_rfl
theorem cv21_2 : tcv Tryd.prog 21 2 = some (some .i64) := by kernel_rfl
theorem cv21_3 : tcv Tryd.prog 21 3 = some (some .i64) := by kernel_rfl
theorem cv21_5 : tcv Tryd.prog 21 5 = some (some .u8) := by kernel_rfl
theorem cv21_6 : tcv Tryd.prog 21 6 = some (some .u8) := by kernel_rfl
theorem cv21_12 : tcv Tryd.prog 21 12 = some (some .u64) := by kernel_rfl
theorem cv21_21 : tcv Tryd.prog 21 21 = some (some .i32) := by kernel_rfl
theorem cv21_33 : tcv Tryd.prog 21 33 = some (some .i64) := by kernel_rfl
theorem cv21_113 : tcv Tryd.prog 21 113 = some (some .u64) := by kernel_rfl
theorem cv21_125 : tcv Tryd.prog 21 125 = some (some .u32) := by kernel_rfl
theorem cv21_126 : tcv Tryd.prog 21 126 = some (some .u8) := by kernel_rfl
theorem cv21_127 : tcv Tryd.prog 21 127 = some (some .u8) := by kernel_rfl
theorem cv21_130 : tcv Tryd.prog 21 130 = some (some .i32) := by kernel_rfl
theorem cv21_131 : tcv Tryd.prog 21 131 = some (some .i32) := by kernel_rfl
theorem cv33_2 : tcv Tryd.prog 33 2 = some (some .i64) := by kernel_rfl
theorem cv33_3 : tcv Tryd.prog 33 3 = some (some .i64) := by kernel_rfl
theorem cv33_5 : tcv Tryd.prog 33 5 = some (some .u8) := by kernel_rfl
theorem cv33_6 : tcv Tryd.prog 33 6 = some (some .u8) := by kernel_rfl
theorem cv33_12 : tcv Tryd.prog 33 12 = some (some .u64) := by kernel_rfl
theorem cv33_21 : tcv Tryd.prog 33 21 = some (some .i32) := by kernel_rfl
theorem cv33_33 : tcv Tryd.prog 33 33 = some (some .i64) := by kernel_rfl
theorem cv33_113 : tcv Tryd.prog 33 113 = some (some .u64) := by kernel_rfl
theorem cv33_125 : tcv Tryd.prog 33 125 = some (some .u32) := by kernel_rfl
theorem cv33_126 : tcv Tryd.prog 33 126 = some (some .u8) := by kernel_rfl
theorem cv33_127 : tcv Tryd.prog 33 127 = some (some .u8) := by kernel_rfl
theorem cv33_130 : tcv Tryd.prog 33 130 = some (some .i32) := by kernel_rfl
theorem cv33_131 : tcv Tryd.prog 33 131 = some (some .i32) := by kernel_rfl
theorem cv113_2 : tcv Tryd.prog 113 2 = some (some .i64) := by kernel_rfl
theorem cv113_3 : tcv Tryd.prog 113 3 = some (some .i64) := by kernel_rfl
theorem cv113_5 : tcv Tryd.prog 113 5 = some (some .u8) := by kernel_rfl
theorem cv113_6 : tcv Tryd.prog 113 6 = some (some .u8) := by kernel_rfl
theorem cv113_12 : tcv Tryd.prog 113 12 = some (some .u64) := by kernel_rfl
theorem cv113_21 : tcv Tryd.prog 113 21 = some (some .i32) := by kernel_rfl
theorem cv113_33 : tcv Tryd.prog 113 33 = some (some .i64) := by kernel_rfl
theorem cv113_113 : tcv Tryd.prog 113 113 = some (some .u64) := by kernel_rfl
theorem cv113_125 : tcv Tryd.prog 113 125 = some (some .u32) := by kernel_rfl
theorem cv113_126 : tcv Tryd.prog 113 126 = some (some .u8) := by kernel_rfl
theorem cv113_127 : tcv Tryd.prog 113 127 = some (some .u8) := by kernel_rfl
theorem cv113_130 : tcv Tryd.prog 113 130 = some (some .i32) := by kernel_rfl
theorem cv113_131 : tcv Tryd.prog 113 131 = some (some .i32) := by kernel_rfl
theorem cv125_2 : tcv Tryd.prog 125 2 = some (some .i64) := by kernel_rfl
theorem cv125_3 : tcv Tryd.prog 125 3 = some (some .i64) := by kernel_rfl
theorem cv125_5 : tcv Tryd.prog 125 5 = some (some .u8) := by kernel_rfl
theorem cv125_6 : tcv Tryd.prog 125 6 = some (some .u8) := by kernel_rfl
theorem cv125_12 : tcv Tryd.prog 125 12 = some (some .u64) := by kernel_rfl
theorem cv125_21 : tcv Tryd.prog 125 21 = some (some .i32) := by kernel_rfl
theorem cv125_33 : tcv Tryd.prog 125 33 = some (some .i64) := by kernel_rfl
theorem cv125_113 : tcv Tryd.prog 125 113 = some (some .u64) := by kernel_rfl
theorem cv125_125 : tcv Tryd.prog 125 125 = some (some .u32) := by kernel_rfl
theorem cv125_126 : tcv Tryd.prog 125 126 = some (some .u8) := by kernel_rfl
theorem cv125_127 : tcv Tryd.prog 125 127 = some (some .u8) := by kernel_rfl
theorem cv125_130 : tcv Tryd.prog 125 130 = some (some .i32) := by kernel_rfl
theorem cv125_131 : tcv Tryd.prog 125 131 = some (some .i32) := by kernel_rfl
theorem cv126_2 : tcv Tryd.prog 126 2 = some (some .i64) := by kernel_rfl
theorem cv126_3 : tcv Tryd.prog 126 3 = some (some .i64) := by kernel_rfl
theorem cv126_5 : tcv Tryd.prog 126 5 = some (some .u8) := by kernel_rfl
theorem cv126_6 : tcv Tryd.prog 126 6 = some (some .u8) := by kernel_rfl
theorem cv126_12 : tcv Tryd.prog 126 12 = some (some .u64) := by kernel_rfl
theorem cv126_21 : tcv Tryd.prog 126 21 = some (some .i32) := by kernel_rfl
theorem cv126_33 : tcv Tryd.prog 126 33 = some (some .i64) := by kernel_rfl
theorem cv126_113 : tcv Tryd.prog 126 113 = some (some .u64) := by kernel_rfl
theorem cv126_125 : tcv Tryd.prog 126 125 = some (some .u32) := by kernel_rfl
theorem cv126_126 : tcv Tryd.prog 126 126 = some (some .u8) := by kernel_rfl
theorem cv126_127 : tcv Tryd.prog 126 127 = some (some .u8) := by kernel_rfl
theorem cv126_130 : tcv Tryd.prog 126 130 = some (some .i32) := by kernel_rfl
theorem cv126_131 : tcv Tryd.prog 126 131 = some (some .i32) := by kernel_rfl
theorem cv127_2 : tcv Tryd.prog 127 2 = some (some .i64) := by kernel_rfl
theorem cv127_3 : tcv Tryd.prog 127 3 = some (some .i64) := by kernel_rfl
theorem cv127_5 : tcv Tryd.prog 127 5 = some (some .u8) := by kernel_rfl
theorem cv127_6 : tcv Tryd.prog 127 6 = some (some .u8) := by kernel_rfl
theorem cv127_12 : tcv Tryd.prog 127 12 = some (some .u64) := by kernel_rfl
theorem cv127_21 : tcv Tryd.prog 127 21 = some (some .i32) := by kernel_rfl
theorem cv127_33 : tcv Tryd.prog 127 33 = some (some .i64) := by kernel_rfl
theorem cv127_113 : tcv Tryd.prog 127 113 = some (some .u64) := by kernel_rfl
theorem cv127_125 : tcv Tryd.prog 127 125 = some (some .u32) := by kernel_rfl
theorem cv127_126 : tcv Tryd.prog 127 126 = some (some .u8) := by kernel_rfl
theorem cv127_127 : tcv Tryd.prog 127 127 = some (some .u8) := by kernel_rfl
theorem cv127_130 : tcv Tryd.prog 127 130 = some (some .i32) := by kernel_rfl
theorem cv127_131 : tcv Tryd.prog 127 131 = some (some .i32) := by kernel_rfl
theorem cv130_2 : tcv Tryd.prog 130 2 = some (some .i64) := by kernel_rfl
theorem cv130_3 : tcv Tryd.prog 130 3 = some (some .i64) := by kernel_rfl
theorem cv130_5 : tcv Tryd.prog 130 5 = some (some .u8) := by kernel_rfl
theorem cv130_6 : tcv Tryd.prog 130 6 = some (some .u8) := by kernel_rfl
theorem cv130_12 : tcv Tryd.prog 130 12 = some (some .u64) := by kernel_rfl
theorem cv130_21 : tcv Tryd.prog 130 21 = some (some .i32) := by kernel_rfl
theorem cv130_33 : tcv Tryd.prog 130 33 = some (some .i64) := by kernel_rfl
theorem cv130_113 : tcv Tryd.prog 130 113 = some (some .u64) := by kernel_rfl
theorem cv130_125 : tcv Tryd.prog 130 125 = some (some .u32) := by kernel_rfl
theorem cv130_126 : tcv Tryd.prog 130 126 = some (some .u8) := by kernel_rfl
theorem cv130_127 : tcv Tryd.prog 130 127 = some (some .u8) := by kernel_rfl
theorem cv130_130 : tcv Tryd.prog 130 130 = some (some .i32) := by kernel_rfl
theorem cv130_131 : tcv Tryd.prog 130 131 = some (some .i32) := by kernel_rfl
theorem cv131_2 : tcv Tryd.prog 131 2 = some (some .i64) := by kernel_rfl
theorem cv131_3 : tcv Tryd.prog 131 3 = some (some .i64) := by kernel_rfl
theorem cv131_5 : tcv Tryd.prog 131 5 = some (some .u8) := by kernel_rfl
theorem cv131_6 : tcv Tryd.prog 131 6 = some (some .u8) := by kernel_rfl
theorem cv131_12 : tcv Tryd.prog 131 12 = some (some .u64) := by kernel_rfl
theorem cv131_21 : tcv Tryd.prog 131 21 = some (some .i32) := by kernel_rfl
theorem cv131_33 : tcv Tryd.prog 131 33 = some (some .i64) := by kernel_rfl
theorem cv131_113 : tcv Tryd.prog 131 113 = some (some .u64) := by kernel_rfl
theorem cv131_125 : tcv Tryd.prog 131 125 = some (some .u32) := by kernel_rfl
theorem cv131_126 : tcv Tryd.prog 131 126 = some (some .u8) := by kernel_rfl
theorem cv131_127 : tcv Tryd.prog 131 127 = some (some .u8) := by kernel_rfl
theorem cv131_130 : tcv Tryd.prog 131 130 = some (some .i32) := by kernel_rfl
theorem cv131_131 : tcv Tryd.prog 131 131 = some (some .i32) := by kernel_rfl
attribute [go_sem] sz1 ag1 zc1 sr1 sz2 ag2 zc2 sr2 sz3 ag3 zc3 sr3 sz4 ag4 zc4 sr4 bo4 sz5 ag5 zc5 sr5 sz6 ag6 zc6 sr6 ni6 ta6 sz7 ag7 zc7 sr7 fd7_0 fo7_0 fd7_1 fo7_1 fd7_2 fo7_2 fd7_3 fo7_3 pl7 bd7 sz8 ag8 zc8 sr8 fd8_0 fo8_0 fd8_1 fo8_1 fd8_2 fo8_2 fd8_3 fo8_3 pl8 bd8 ni8 ta8 sz9 ag9 zc9 sr9 cu9 ln9 sz10 ag10 zc10 sr10 ni10 ta10 cu10 ln10 sz11 ag11 zc11 sr11 ni11 ta11 cu11 ln11 sz12 ag12 zc12 sr12 sz13 ag13 zc13 sr13 fd13_0 fo13_0 fd13_1 fo13_1 pl13 bd13 sz14 ag14 zc14 sr14 fd14_0 fo14_0 fd14_1 fo14_1 pl14 bd14 ni14 ta14 sz15 ag15 zc15 sr15 ni15 ta15 sz16 ag16 zc16 sr16 ni16 ta16 sz17 ag17 zc17 sr17 ni17 ta17 sz18 ag18 zc18 sr18 fd18_0 fo18_0 pl18 bd18 sz19 ag19 zc19 sr19 fd19_0 fo19_0 pl19 bd19 ni19 ta19 sz20 ag20 zc20 sr20 if20 sz21 ag21 zc21 sr21 sz22 ag22 zc22 sr22 el22 cu22 ap22 bs22 ms22 mm22 mc22 mb22 ma22 ae22_22 ln22 sz23 ag23 zc23 sr23 el23 cu23 ap23 bs23 ms23 mm23 mc23 mb23 ma23 ae23_23 ln23 sz24 ag24 zc24 sr24 el24 cu24 ap24 bs24 ms24 mm24 mc24 mb24 ma24 ae24_24 ln24 sz25 ag25 zc25 sr25 fd25_0 fo25_0 fd25_1 fo25_1 fd25_2 fo25_2 fd25_3 fo25_3 fd25_4 fo25_4 pl25 bd25 sz26 ag26 zc26 sr26 fd26_0 fo26_0 fd26_1 fo26_1 fd26_2 fo26_2 fd26_3 fo26_3 fd26_4 fo26_4 pl26 bd26 ni26 ta26 sz27 ag27 zc27 sr27 fd27_0 fo27_0 fd27_1 fo27_1 fd27_2 fo27_2 fd27_3 fo27_3 fd27_4 fo27_4 fd27_5 fo27_5 pl27 bd27 sz28 ag28 zc28 sr28 fd28_0 fo28_0 fd28_1 fo28_1 fd28_2 fo28_2 fd28_3 fo28_3 fd28_4 fo28_4 fd28_5 fo28_5 pl28 bd28 ni28 ta28 sz29 ag29 zc29 sr29 el29 cu29 ap29 bs29 ms29 mm29 mc29 mb29 ma29 ae29_29 ln29 sz30 ag30 zc30 sr30 el30 cu30 ap30 bs30 ms30 mm30 mc30 mb30 ma30 ae30_30 ln30 sz31 ag31 zc31 sr31 sz32 ag32 zc32 sr32 sz33 ag33 zc33 sr33 ni33 ta33 sz35 ag35 zc35 sr35 sz36 ag36 zc36 sr36 sz37 ag37 zc37 sr37 el37 cu37 ap37 bs37 ms37 mm37 mc37 mb37 ma37 ae37_37 ln37 sz38 ag38 zc38 sr38 fd38_0 fo38_0 fd38_1 fo38_1 fd38_2 fo38_2 pl38 bd38 sz39 ag39 zc39 sr39 fd39_0 fo39_0 fd39_1 fo39_1 fd39_2 fo39_2 pl39 bd39 ni39 ta39 sz41 ag41 zc41 sr41 sz42 ag42 zc42 sr42 sz43 ag43 zc43 sr43 sz44 ag44 zc44 sr44 sz45 ag45 zc45 sr45 sz46 ag46 zc46 sr46 sz47 ag47 zc47 sr47 sz48 ag48 zc48 sr48 sz49 ag49 zc49 sr49 sz50 ag50 zc50 sr50 fd50_0 fo50_0 fd50_1 fo50_1 fd50_2 fo50_2 fd50_3 fo50_3 pl50 bd50 sz51 ag51 zc51 sr51 fd51_0 fo51_0 fd51_1 fo51_1 fd51_2 fo51_2 fd51_3 fo51_3 pl51 bd51 ni51 ta51 sz52 ag52 zc52 sr52 el52 cu52 ap52 bs52 ms52 mm52 mc52 mb52 ma52 ae52_52 ln52 sz53 ag53 zc53 sr53 sz54 ag54 zc54 sr54 sz55 ag55 zc55 sr55 sz56 ag56 zc56 sr56 fd56_0 fo56_0 fd56_1 fo56_1 fd56_2 fo56_2 pl56 bd56 sz57 ag57 zc57 sr57 fd57_0 fo57_0 fd57_1 fo57_1 fd57_2 fo57_2 pl57 bd57 ni57 ta57 sz58 ag58 zc58 sr58 sz59 ag59 zc59 sr59 sz60 ag60 zc60 sr60 sz61 ag61 zc61 sr61 sz62 ag62 zc62 sr62 fd62_0 fo62_0 fd62_1 fo62_1 pl62 bd62 sz63 ag63 zc63 sr63 fd63_0 fo63_0 fd63_1 fo63_1 pl63 bd63 ni63 ta63 sz64 ag64 zc64 sr64 sz65 ag65 zc65 sr65 ln65 mk65 sz66 ag66 zc66 sr66 sz67 ag67 zc67 sr67 sz69 ag69 zc69 sr69 sz70 ag70 zc70 sr70 sz71 ag71 zc71 sr71 fd71_0 fo71_0 fd71_1 fo71_1 pl71 bd71 sz72 ag72 zc72 sr72 fd72_0 fo72_0 fd72_1 fo72_1 pl72 bd72 es72 ni72 ta72 sz73 ag73 zc73 sr73 sz74 ag74 zc74 sr74 es74 el74 ln74 sz75 ag75 zc75 sr75 sz76 ag76 zc76 sr76 ln76 mk76 sz77 ag77 zc77 sr77 sz78 ag78 zc78 sr78 sz79 ag79 zc79 sr79 sz80 ag80 zc80 sr80 sz81 ag81 zc81 sr81 sz82 ag82 zc82 sr82 sz83 ag83 zc83 sr83 sz84 ag84 zc84 sr84 sz85 ag85 zc85 sr85 sz86 ag86 zc86 sr86 sz87 ag87 zc87 sr87 sz88 ag88 zc88 sr88 sz89 ag89 zc89 sr89 fd89_0 fo89_0 fd89_1 fo89_1 pl89 bd89 sz90 ag90 zc90 sr90 fd90_0 fo90_0 fd90_1 fo90_1 pl90 bd90 ni90 ta90 sz91 ag91 zc91 sr91 sz92 ag92 zc92 sr92 sz93 ag93 zc93 sr93 sz94 ag94 zc94 sr94 sz95 ag95 zc95 sr95 sz96 ag96 zc96 sr96 sz97 ag97 zc97 sr97 sz98 ag98 zc98 sr98 sz99 ag99 zc99 sr99 fd99_0 fo99_0 pl99 bd99 sz100 ag100 zc100 sr100 fd100_0 fo100_0 pl100 bd100 es100 ni100 ta100 sz102 ag102 zc102 sr102 sz103 ag103 zc103 sr103 sz104 ag104 zc104 sr104 sz105 ag105 zc105 sr105 sz106 ag106 zc106 sr106 sz107 ag107 zc107 sr107 sz108 ag108 zc108 sr108 es108 el108 ln108 sz109 ag109 zc109 sr109 sz110 ag110 zc110 sr110 sz112 ag112 zc112 sr112 sz113 ag113 zc113 sr113 sz114 ag114 zc114 sr114 sz115 ag115 zc115 sr115 sz116 ag116 zc116 sr116 sz117 ag117 zc117 sr117 sz118 ag118 zc118 sr118 sz119 ag119 zc119 sr119 fd119_0 fo119_0 fd119_1 fo119_1 fd119_2 fo119_2 fd119_3 fo119_3 pl119 bd119 sz120 ag120 zc120 sr120 fd120_0 fo120_0 fd120_1 fo120_1 fd120_2 fo120_2 fd120_3 fo120_3 pl120 bd120 ni120 ta120 sz121 ag121 zc121 sr121 es121 el121 ln121 sz122 ag122 zc122 sr122 fd122_0 pl122 bd122 sz123 ag123 zc123 sr123 fd123_0 pl123 bd123 ni123 ta123 sz124 ag124 zc124 sr124 sz125 ag125 zc125 sr125 sz126 ag126 zc126 sr126 ni126 ta126 sz127 ag127 zc127 sr127 ni127 ta127 sz128 ag128 zc128 sr128 sz129 ag129 zc129 sr129 ni129 ta129 sz130 ag130 zc130 sr130 ni130 ta130 sz131 ag131 zc131 sr131 ni131 ta131 sz132 ag132 zc132 sr132 fd132_0 fo132_0 fd132_1 fo132_1 fd132_2 fo132_2 fd132_3 fo132_3 fd132_4 fo132_4 fd132_5 fo132_5 fd132_6 fo132_6 fd132_7 fo132_7 fd132_8 fo132_8 fd132_9 fo132_9 fd132_10 fo132_10 pl132 bd132 sz133 ag133 zc133 sr133 fd133_0 fo133_0 fd133_1 fo133_1 fd133_2 fo133_2 fd133_3 fo133_3 fd133_4 fo133_4 fd133_5 fo133_5 fd133_6 fo133_6 fd133_7 fo133_7 fd133_8 fo133_8 fd133_9 fo133_9 fd133_10 fo133_10 pl133 bd133 ni133 ta133 sz134 ag134 zc134 sr134 mu65 mu76 mq65 mq76 ar74 ia74 ba74 ar108 ia108 ba108 ar121 ia121 ba121 cv2_2 cv2_3 cv2_5 cv2_6 cv2_12 cv2_21 cv2_33 cv2_113 cv2_125 cv2_126 cv2_127 cv2_130 cv2_131 cv3_2 cv3_3 cv3_5 cv3_6 cv3_12 cv3_21 cv3_33 cv3_113 cv3_125 cv3_126 cv3_127 cv3_130 cv3_131 cv5_2 cv5_3 cv5_5 cv5_6 cv5_12 cv5_21 cv5_33 cv5_113 cv5_125 cv5_126 cv5_127 cv5_130 cv5_131 cv6_2 cv6_3 cv6_5 cv6_6 cv6_12 cv6_21 cv6_33 cv6_113 cv6_125 cv6_126 cv6_127 cv6_130 cv6_131 cv9_9 cv9_10 cv9_11 cv10_9 cv10_10 cv10_11 cv11_9 cv11_10 cv11_11 cv12_2 cv12_3 cv12_5 cv12_6 cv12_12 cv12_21 cv12_33 cv12_113 cv12_125 cv12_126 cv12_127 cv12_130 cv12_131 cv21_2 cv21_3 cv21_5 cv21_6 cv21_12 cv21_21 cv21_33 cv21_113 cv21_125 cv21_126 cv21_127 cv21_130 cv21_131 cv33_2 cv33_3 cv33_5 cv33_6 cv33_12 cv33_21 cv33_33 cv33_113 cv33_125 cv33_126 cv33_127 cv33_130 cv33_131 cv113_2 cv113_3 cv113_5 cv113_6 cv113_12 cv113_21 cv113_33 cv113_113 cv113_125 cv113_126 cv113_127 cv113_130 cv113_131 cv125_2 cv125_3 cv125_5 cv125_6 cv125_12 cv125_21 cv125_33 cv125_113 cv125_125 cv125_126 cv125_127 cv125_130 cv125_131 cv126_2 cv126_3 cv126_5 cv126_6 cv126_12 cv126_21 cv126_33 cv126_113 cv126_125 cv126_126 cv126_127 cv126_130 cv126_131 cv127_2 cv127_3 cv127_5 cv127_6 cv127_12 cv127_21 cv127_33 cv127_113 cv127_125 cv127_126 cv127_127 cv127_130 cv127_131 cv130_2 cv130_3 cv130_5 cv130_6 cv130_12 cv130_21 cv130_33 cv130_113 cv130_125 cv130_126 cv130_127 cv130_130 cv130_131 cv131_2 cv131_3 cv131_5 cv131_6 cv131_12 cv131_21 cv131_33 cv131_113 cv131_125 cv131_126 cv131_127 cv131_130 cv131_131
end Go.Proofs.YtplllkjobpjaoaaDoor.Ty
