/- Texts joined: Ty. No conditions. -/
import Derived.Test.YtelehpccfaedjaaProg
import Derived.Test.YtelehpccfaedjaaMrE
import Derived.KernelRfl
/- The closed facts on the types of this translation: cells, zero values, places of fields, elements. By program; no conditions. -/
namespace Go.Proofs.Ytelehpccfaedjaa.Ty
open Go Go.Proofs Go.Abs
theorem mixed : Try.prog.follows .mixedOrders = true := by kernel_rfl
theorem sz1 : tsz Try.prog 1 = some 1 := by kernel_rfl
theorem ag1 : tag Try.prog 1 = some none := by kernel_rfl
theorem zc1 : tzc Try.prog 1 = some [.nilFunc] := by kernel_rfl
theorem sr1 : tsrc Try.prog 1 = true := by kernel_rfl
theorem sz2 : tsz Try.prog 2 = some 1 := by kernel_rfl
theorem ag2 : tag Try.prog 2 = some none := by kernel_rfl
theorem zc2 : tzc Try.prog 2 = some [(.int .i64 0)] := by kernel_rfl
theorem sr2 : tsrc Try.prog 2 = false := by kernel_rfl
theorem sz3 : tsz Try.prog 3 = some 1 := by kernel_rfl
theorem ag3 : tag Try.prog 3 = some none := by kernel_rfl
theorem zc3 : tzc Try.prog 3 = some [(.int .i64 0)] := by kernel_rfl
theorem sr3 : tsrc Try.prog 3 = false := by kernel_rfl
theorem sz4 : tsz Try.prog 4 = some 1 := by kernel_rfl
theorem ag4 : tag Try.prog 4 = some none := by kernel_rfl
theorem zc4 : tzc Try.prog 4 = some [(.bool false)] := by kernel_rfl
theorem sr4 : tsrc Try.prog 4 = true := by kernel_rfl
theorem bo4 : tbool Try.prog 4 = true := by kernel_rfl
theorem sz5 : tsz Try.prog 5 = some 1 := by kernel_rfl
theorem ag5 : tag Try.prog 5 = some none := by kernel_rfl
theorem zc5 : tzc Try.prog 5 = some [(.int .u8 0)] := by kernel_rfl
theorem sr5 : tsrc Try.prog 5 = false := by kernel_rfl
theorem sz6 : tsz Try.prog 6 = some 1 := by kernel_rfl
theorem ag6 : tag Try.prog 6 = some none := by kernel_rfl
theorem zc6 : tzc Try.prog 6 = some [(.int .u8 0)] := by kernel_rfl
theorem sr6 : tsrc Try.prog 6 = false := by kernel_rfl
theorem ni6 : tni Try.prog 6 = true := by kernel_rfl
theorem ta6 : tas Try.prog 6 = some (.int .u8 0) := by kernel_rfl
theorem sz7 : tsz Try.prog 7 = some 4 := by kernel_rfl
theorem ag7 : tag Try.prog 7 = some (some 4) := by kernel_rfl
theorem zc7 : tzc Try.prog 7 = some [(.int .i64 0), (.int .i64 0), (.bool false), (.int .u8 0)] := by kernel_rfl
theorem sr7 : tsrc Try.prog 7 = true := by kernel_rfl
theorem fd7_0 : tfd Try.prog 7 0 = some (0, 2) := by kernel_rfl
theorem fo7_0 : tfo Try.prog 7 0 = some 0 := by kernel_rfl
theorem fd7_1 : tfd Try.prog 7 1 = some (1, 3) := by kernel_rfl
theorem fo7_1 : tfo Try.prog 7 1 = some 1 := by kernel_rfl
theorem fd7_2 : tfd Try.prog 7 2 = some (2, 4) := by kernel_rfl
theorem fo7_2 : tfo Try.prog 7 2 = some 2 := by kernel_rfl
theorem fd7_3 : tfd Try.prog 7 3 = some (3, 6) := by kernel_rfl
theorem fo7_3 : tfo Try.prog 7 3 = some 3 := by kernel_rfl
theorem pl7 : tpl Try.prog 7 = some [(0, 1), (1, 1), (2, 1), (3, 1)] := by kernel_rfl
theorem bd7 (ps : List (Nat × AV)) (K : AV → Prop) : aBuild Try.prog 7 ps K = aBld (tpl Try.prog 7) (tzc Try.prog 7) ps K := aBuild_eq (by rw [pl7]; rfl) ps K
theorem sz8 : tsz Try.prog 8 = some 4 := by kernel_rfl
theorem ag8 : tag Try.prog 8 = some (some 4) := by kernel_rfl
theorem zc8 : tzc Try.prog 8 = some [(.int .i64 0), (.int .i64 0), (.bool false), (.int .u8 0)] := by kernel_rfl
theorem sr8 : tsrc Try.prog 8 = true := by kernel_rfl
theorem fd8_0 : tfd Try.prog 8 0 = some (0, 2) := by kernel_rfl
theorem fo8_0 : tfo Try.prog 8 0 = some 0 := by kernel_rfl
theorem fd8_1 : tfd Try.prog 8 1 = some (1, 3) := by kernel_rfl
theorem fo8_1 : tfo Try.prog 8 1 = some 1 := by kernel_rfl
theorem fd8_2 : tfd Try.prog 8 2 = some (2, 4) := by kernel_rfl
theorem fo8_2 : tfo Try.prog 8 2 = some 2 := by kernel_rfl
theorem fd8_3 : tfd Try.prog 8 3 = some (3, 6) := by kernel_rfl
theorem fo8_3 : tfo Try.prog 8 3 = some 3 := by kernel_rfl
theorem pl8 : tpl Try.prog 8 = some [(0, 1), (1, 1), (2, 1), (3, 1)] := by kernel_rfl
theorem bd8 (ps : List (Nat × AV)) (K : AV → Prop) : aBuild Try.prog 8 ps K = aBld (tpl Try.prog 8) (tzc Try.prog 8) ps K := aBuild_eq (by rw [pl8]; rfl) ps K
theorem ni8 : tni Try.prog 8 = true := by kernel_rfl
theorem ta8 : tas Try.prog 8 = some (.agg [(.int .i64 0), (.int .i64 0), (.bool false), (.int .u8 0)]) := by kernel_rfl
theorem sz9 : tsz Try.prog 9 = some 1 := by kernel_rfl
theorem ag9 : tag Try.prog 9 = some none := by kernel_rfl
theorem zc9 : tzc Try.prog 9 = some [(.str ⟨#[]⟩)] := by kernel_rfl
theorem sr9 : tsrc Try.prog 9 = true := by kernel_rfl
theorem cu9 : tcut Try.prog 9 = some none := by kernel_rfl
theorem ln9 : tlen Try.prog 9 = some .str := by kernel_rfl
theorem sz10 : tsz Try.prog 10 = some 1 := by kernel_rfl
theorem ag10 : tag Try.prog 10 = some none := by kernel_rfl
theorem zc10 : tzc Try.prog 10 = some [(.str ⟨#[]⟩)] := by kernel_rfl
theorem sr10 : tsrc Try.prog 10 = true := by kernel_rfl
theorem ni10 : tni Try.prog 10 = true := by kernel_rfl
theorem ta10 : tas Try.prog 10 = some (.str ⟨#[]⟩) := by kernel_rfl
theorem cu10 : tcut Try.prog 10 = some none := by kernel_rfl
theorem ln10 : tlen Try.prog 10 = some .str := by kernel_rfl
theorem sz11 : tsz Try.prog 11 = some 1 := by kernel_rfl
theorem ag11 : tag Try.prog 11 = some none := by kernel_rfl
theorem zc11 : tzc Try.prog 11 = some [(.str ⟨#[]⟩)] := by kernel_rfl
theorem sr11 : tsrc Try.prog 11 = true := by kernel_rfl
theorem ni11 : tni Try.prog 11 = true := by kernel_rfl
theorem ta11 : tas Try.prog 11 = some (.str ⟨#[]⟩) := by kernel_rfl
theorem cu11 : tcut Try.prog 11 = some none := by kernel_rfl
theorem ln11 : tlen Try.prog 11 = some .str := by kernel_rfl
theorem sz12 : tsz Try.prog 12 = some 1 := by kernel_rfl
theorem ag12 : tag Try.prog 12 = some none := by kernel_rfl
theorem zc12 : tzc Try.prog 12 = some [(.int .u64 0)] := by kernel_rfl
theorem sr12 : tsrc Try.prog 12 = false := by kernel_rfl
theorem sz13 : tsz Try.prog 13 = some 2 := by kernel_rfl
theorem ag13 : tag Try.prog 13 = some (some 2) := by kernel_rfl
theorem zc13 : tzc Try.prog 13 = some [(.str ⟨#[]⟩), (.int .u64 0)] := by kernel_rfl
theorem sr13 : tsrc Try.prog 13 = true := by kernel_rfl
theorem fd13_0 : tfd Try.prog 13 0 = some (0, 9) := by kernel_rfl
theorem fo13_0 : tfo Try.prog 13 0 = some 0 := by kernel_rfl
theorem fd13_1 : tfd Try.prog 13 1 = some (1, 12) := by kernel_rfl
theorem fo13_1 : tfo Try.prog 13 1 = some 1 := by kernel_rfl
theorem pl13 : tpl Try.prog 13 = some [(0, 1), (1, 1)] := by kernel_rfl
theorem bd13 (ps : List (Nat × AV)) (K : AV → Prop) : aBuild Try.prog 13 ps K = aBld (tpl Try.prog 13) (tzc Try.prog 13) ps K := aBuild_eq (by rw [pl13]; rfl) ps K
theorem sz14 : tsz Try.prog 14 = some 2 := by kernel_rfl
theorem ag14 : tag Try.prog 14 = some (some 2) := by kernel_rfl
theorem zc14 : tzc Try.prog 14 = some [(.str ⟨#[]⟩), (.int .u64 0)] := by kernel_rfl
theorem sr14 : tsrc Try.prog 14 = true := by kernel_rfl
theorem fd14_0 : tfd Try.prog 14 0 = some (0, 9) := by kernel_rfl
theorem fo14_0 : tfo Try.prog 14 0 = some 0 := by kernel_rfl
theorem fd14_1 : tfd Try.prog 14 1 = some (1, 12) := by kernel_rfl
theorem fo14_1 : tfo Try.prog 14 1 = some 1 := by kernel_rfl
theorem pl14 : tpl Try.prog 14 = some [(0, 1), (1, 1)] := by kernel_rfl
theorem bd14 (ps : List (Nat × AV)) (K : AV → Prop) : aBuild Try.prog 14 ps K = aBld (tpl Try.prog 14) (tzc Try.prog 14) ps K := aBuild_eq (by rw [pl14]; rfl) ps K
theorem ni14 : tni Try.prog 14 = true := by kernel_rfl
theorem ta14 : tas Try.prog 14 = some (.agg [(.str ⟨#[]⟩), (.int .u64 0)]) := by kernel_rfl
theorem sz15 : tsz Try.prog 15 = some 1 := by kernel_rfl
theorem ag15 : tag Try.prog 15 = some none := by kernel_rfl
theorem zc15 : tzc Try.prog 15 = some [(.ptr none)] := by kernel_rfl
theorem sr15 : tsrc Try.prog 15 = true := by kernel_rfl
theorem ni15 : tni Try.prog 15 = true := by kernel_rfl
theorem ta15 : tas Try.prog 15 = some (.ptr none) := by kernel_rfl
theorem sz16 : tsz Try.prog 16 = some 1 := by kernel_rfl
theorem ag16 : tag Try.prog 16 = some none := by kernel_rfl
theorem zc16 : tzc Try.prog 16 = some [(.ptr none)] := by kernel_rfl
theorem sr16 : tsrc Try.prog 16 = true := by kernel_rfl
theorem ni16 : tni Try.prog 16 = true := by kernel_rfl
theorem ta16 : tas Try.prog 16 = some (.ptr none) := by kernel_rfl
theorem sz17 : tsz Try.prog 17 = some 1 := by kernel_rfl
theorem ag17 : tag Try.prog 17 = some none := by kernel_rfl
theorem zc17 : tzc Try.prog 17 = some [(.ptr none)] := by kernel_rfl
theorem sr17 : tsrc Try.prog 17 = true := by kernel_rfl
theorem ni17 : tni Try.prog 17 = true := by kernel_rfl
theorem ta17 : tas Try.prog 17 = some (.ptr none) := by kernel_rfl
theorem sz18 : tsz Try.prog 18 = some 1 := by kernel_rfl
theorem ag18 : tag Try.prog 18 = some (some 1) := by kernel_rfl
theorem zc18 : tzc Try.prog 18 = some [(.ptr none)] := by kernel_rfl
theorem sr18 : tsrc Try.prog 18 = true := by kernel_rfl
theorem fd18_0 : tfd Try.prog 18 0 = some (0, 17) := by kernel_rfl
theorem fo18_0 : tfo Try.prog 18 0 = some 0 := by kernel_rfl
theorem pl18 : tpl Try.prog 18 = some [(0, 1)] := by kernel_rfl
theorem bd18 (ps : List (Nat × AV)) (K : AV → Prop) : aBuild Try.prog 18 ps K = aBld (tpl Try.prog 18) (tzc Try.prog 18) ps K := aBuild_eq (by rw [pl18]; rfl) ps K
theorem sz19 : tsz Try.prog 19 = some 1 := by kernel_rfl
theorem ag19 : tag Try.prog 19 = some (some 1) := by kernel_rfl
theorem zc19 : tzc Try.prog 19 = some [(.ptr none)] := by kernel_rfl
theorem sr19 : tsrc Try.prog 19 = true := by kernel_rfl
theorem fd19_0 : tfd Try.prog 19 0 = some (0, 17) := by kernel_rfl
theorem fo19_0 : tfo Try.prog 19 0 = some 0 := by kernel_rfl
theorem pl19 : tpl Try.prog 19 = some [(0, 1)] := by kernel_rfl
theorem bd19 (ps : List (Nat × AV)) (K : AV → Prop) : aBuild Try.prog 19 ps K = aBld (tpl Try.prog 19) (tzc Try.prog 19) ps K := aBuild_eq (by rw [pl19]; rfl) ps K
theorem ni19 : tni Try.prog 19 = true := by kernel_rfl
theorem ta19 : tas Try.prog 19 = some (.agg [(.ptr none)]) := by kernel_rfl
theorem sz20 : tsz Try.prog 20 = some 1 := by kernel_rfl
theorem ag20 : tag Try.prog 20 = some none := by kernel_rfl
theorem zc20 : tzc Try.prog 20 = some [.nilIface] := by kernel_rfl
theorem sr20 : tsrc Try.prog 20 = true := by kernel_rfl
theorem if20 : tifc Try.prog 20 = true := by kernel_rfl
theorem sz21 : tsz Try.prog 21 = some 1 := by kernel_rfl
theorem ag21 : tag Try.prog 21 = some none := by kernel_rfl
theorem zc21 : tzc Try.prog 21 = some [(.int .i32 0)] := by kernel_rfl
theorem sr21 : tsrc Try.prog 21 = false := by kernel_rfl
theorem sz22 : tsz Try.prog 22 = some 1 := by kernel_rfl
theorem ag22 : tag Try.prog 22 = some none := by kernel_rfl
theorem zc22 : tzc Try.prog 22 = some [(.sl [] .full)] := by kernel_rfl
theorem sr22 : tsrc Try.prog 22 = true := by kernel_rfl
theorem el22 : tel Try.prog 22 = some (none, 8) := by kernel_rfl
theorem cu22 : tcut Try.prog 22 = some (some 8) := by kernel_rfl
theorem ap22 : tap Try.prog 22 = some (8, 64) := by kernel_rfl
theorem bs22 : tbs Try.prog 22 = some 8 := by kernel_rfl
theorem ms22 : tms Try.prog 22 = some (8, 64, [(.int .i64 0), (.int .i64 0), (.int .i64 0), (.int .i64 0), (.int .i64 0), (.int .i64 0), (.int .i64 0), (.bool false)], 40) := by kernel_rfl
theorem mm22 (l c : AV) (h : AH) (K : AV → AH → Prop) : aMakeSlice Try.prog 22 l c h K = aMkT (tms Try.prog 22) l c h K := aMakeSlice_eq (by rw [ms22]; rfl) l c K
theorem mc22 (x : AV) (h : AH) (K : AV → AH → Prop) : aClear Try.prog 22 x h K = aClT (tms Try.prog 22) x h K := aClear_eq (by rw [ms22]; rfl) x K
theorem mb22 (n : Nat) (ps : List (Nat × AV)) (h : AH) (K : AV → AH → Prop) : aBuildSliceM Try.prog 22 n ps h K = aBsM (tms Try.prog 22) n ps h K := aBuildSliceM_eq (by rw [ms22]; rfl) n ps K
theorem ma22 (s x : AV) (h : AH) (K : AV → AH → Prop) : aAppendM Try.prog 22 22 s x h K = aApM (tms Try.prog 22) s x h K := aAppendM_eq sr22 (by rw [ms22]; rfl) s x K
theorem ae22_22 (s x : AV) (h : AH) (K : AV → AH → Prop) : aAppend Try.prog 22 22 s x h K = aAp (tap Try.prog 22) s x h K := aAppend_eq sr22 s x K
theorem ln22 : tlen Try.prog 22 = some .sl := by kernel_rfl
theorem sz23 : tsz Try.prog 23 = some 1 := by kernel_rfl
theorem ag23 : tag Try.prog 23 = some none := by kernel_rfl
theorem zc23 : tzc Try.prog 23 = some [(.sl [] .full)] := by kernel_rfl
theorem sr23 : tsrc Try.prog 23 = true := by kernel_rfl
theorem el23 : tel Try.prog 23 = some (none, 5) := by kernel_rfl
theorem cu23 : tcut Try.prog 23 = some (some 5) := by kernel_rfl
theorem ap23 : tap Try.prog 23 = some (5, 40) := by kernel_rfl
theorem bs23 : tbs Try.prog 23 = some 5 := by kernel_rfl
theorem ms23 : tms Try.prog 23 = some (5, 40, [(.int .i64 0), (.int .i64 0), (.int .i64 0), (.int .i64 0), (.int .i64 0)], 42) := by kernel_rfl
theorem mm23 (l c : AV) (h : AH) (K : AV → AH → Prop) : aMakeSlice Try.prog 23 l c h K = aMkT (tms Try.prog 23) l c h K := aMakeSlice_eq (by rw [ms23]; rfl) l c K
theorem mc23 (x : AV) (h : AH) (K : AV → AH → Prop) : aClear Try.prog 23 x h K = aClT (tms Try.prog 23) x h K := aClear_eq (by rw [ms23]; rfl) x K
theorem mb23 (n : Nat) (ps : List (Nat × AV)) (h : AH) (K : AV → AH → Prop) : aBuildSliceM Try.prog 23 n ps h K = aBsM (tms Try.prog 23) n ps h K := aBuildSliceM_eq (by rw [ms23]; rfl) n ps K
theorem ma23 (s x : AV) (h : AH) (K : AV → AH → Prop) : aAppendM Try.prog 23 23 s x h K = aApM (tms Try.prog 23) s x h K := aAppendM_eq sr23 (by rw [ms23]; rfl) s x K
theorem ae23_23 (s x : AV) (h : AH) (K : AV → AH → Prop) : aAppend Try.prog 23 23 s x h K = aAp (tap Try.prog 23) s x h K := aAppend_eq sr23 s x K
theorem ln23 : tlen Try.prog 23 = some .sl := by kernel_rfl
theorem sz24 : tsz Try.prog 24 = some 1 := by kernel_rfl
theorem ag24 : tag Try.prog 24 = some none := by kernel_rfl
theorem zc24 : tzc Try.prog 24 = some [.nilFunc] := by kernel_rfl
theorem sr24 : tsrc Try.prog 24 = true := by kernel_rfl
theorem sz25 : tsz Try.prog 25 = some 1 := by kernel_rfl
theorem ag25 : tag Try.prog 25 = some none := by kernel_rfl
theorem zc25 : tzc Try.prog 25 = some [.nilFunc] := by kernel_rfl
theorem sr25 : tsrc Try.prog 25 = true := by kernel_rfl
theorem sz26 : tsz Try.prog 26 = some 1 := by kernel_rfl
theorem ag26 : tag Try.prog 26 = some none := by kernel_rfl
theorem zc26 : tzc Try.prog 26 = some [(.int .i64 0)] := by kernel_rfl
theorem sr26 : tsrc Try.prog 26 = false := by kernel_rfl
theorem ni26 : tni Try.prog 26 = true := by kernel_rfl
theorem ta26 : tas Try.prog 26 = some (.int .i64 0) := by kernel_rfl
theorem sz28 : tsz Try.prog 28 = some 1 := by kernel_rfl
theorem ag28 : tag Try.prog 28 = some none := by kernel_rfl
theorem zc28 : tzc Try.prog 28 = some [.nilFunc] := by kernel_rfl
theorem sr28 : tsrc Try.prog 28 = true := by kernel_rfl
theorem sz29 : tsz Try.prog 29 = some 1 := by kernel_rfl
theorem ag29 : tag Try.prog 29 = some none := by kernel_rfl
theorem zc29 : tzc Try.prog 29 = some [(.sl [] .full)] := by kernel_rfl
theorem sr29 : tsrc Try.prog 29 = true := by kernel_rfl
theorem el29 : tel Try.prog 29 = some (none, 1) := by kernel_rfl
theorem cu29 : tcut Try.prog 29 = some (some 1) := by kernel_rfl
theorem ap29 : tap Try.prog 29 = some (1, 8) := by kernel_rfl
theorem bs29 : tbs Try.prog 29 = some 1 := by kernel_rfl
theorem ms29 : tms Try.prog 29 = some (1, 8, [(.int .i64 0)], 3) := by kernel_rfl
theorem mm29 (l c : AV) (h : AH) (K : AV → AH → Prop) : aMakeSlice Try.prog 29 l c h K = aMkT (tms Try.prog 29) l c h K := aMakeSlice_eq (by rw [ms29]; rfl) l c K
theorem mc29 (x : AV) (h : AH) (K : AV → AH → Prop) : aClear Try.prog 29 x h K = aClT (tms Try.prog 29) x h K := aClear_eq (by rw [ms29]; rfl) x K
theorem mb29 (n : Nat) (ps : List (Nat × AV)) (h : AH) (K : AV → AH → Prop) : aBuildSliceM Try.prog 29 n ps h K = aBsM (tms Try.prog 29) n ps h K := aBuildSliceM_eq (by rw [ms29]; rfl) n ps K
theorem ma29 (s x : AV) (h : AH) (K : AV → AH → Prop) : aAppendM Try.prog 29 29 s x h K = aApM (tms Try.prog 29) s x h K := aAppendM_eq sr29 (by rw [ms29]; rfl) s x K
theorem ae29_29 (s x : AV) (h : AH) (K : AV → AH → Prop) : aAppend Try.prog 29 29 s x h K = aAp (tap Try.prog 29) s x h K := aAppend_eq sr29 s x K
theorem ln29 : tlen Try.prog 29 = some .sl := by kernel_rfl
theorem sz31 : tsz Try.prog 31 = some 1 := by kernel_rfl
theorem ag31 : tag Try.prog 31 = some none := by kernel_rfl
theorem zc31 : tzc Try.prog 31 = some [.nilFunc] := by kernel_rfl
theorem sr31 : tsrc Try.prog 31 = true := by kernel_rfl
theorem sz32 : tsz Try.prog 32 = some 1 := by kernel_rfl
theorem ag32 : tag Try.prog 32 = some none := by kernel_rfl
theorem zc32 : tzc Try.prog 32 = some [.nilFunc] := by kernel_rfl
theorem sr32 : tsrc Try.prog 32 = true := by kernel_rfl
theorem sz33 : tsz Try.prog 33 = some 1 := by kernel_rfl
theorem ag33 : tag Try.prog 33 = some none := by kernel_rfl
theorem zc33 : tzc Try.prog 33 = some [.nilFunc] := by kernel_rfl
theorem sr33 : tsrc Try.prog 33 = true := by kernel_rfl
theorem sz34 : tsz Try.prog 34 = some 1 := by kernel_rfl
theorem ag34 : tag Try.prog 34 = some none := by kernel_rfl
theorem zc34 : tzc Try.prog 34 = some [(.sl [] .full)] := by kernel_rfl
theorem sr34 : tsrc Try.prog 34 = true := by kernel_rfl
theorem el34 : tel Try.prog 34 = some (none, 3) := by kernel_rfl
theorem cu34 : tcut Try.prog 34 = some (some 3) := by kernel_rfl
theorem ap34 : tap Try.prog 34 = some (3, 24) := by kernel_rfl
theorem bs34 : tbs Try.prog 34 = some 3 := by kernel_rfl
theorem ms34 : tms Try.prog 34 = some (3, 24, [(.int .i64 0), (.int .i64 0), (.bool false)], 48) := by kernel_rfl
theorem mm34 (l c : AV) (h : AH) (K : AV → AH → Prop) : aMakeSlice Try.prog 34 l c h K = aMkT (tms Try.prog 34) l c h K := aMakeSlice_eq (by rw [ms34]; rfl) l c K
theorem mc34 (x : AV) (h : AH) (K : AV → AH → Prop) : aClear Try.prog 34 x h K = aClT (tms Try.prog 34) x h K := aClear_eq (by rw [ms34]; rfl) x K
theorem mb34 (n : Nat) (ps : List (Nat × AV)) (h : AH) (K : AV → AH → Prop) : aBuildSliceM Try.prog 34 n ps h K = aBsM (tms Try.prog 34) n ps h K := aBuildSliceM_eq (by rw [ms34]; rfl) n ps K
theorem ma34 (s x : AV) (h : AH) (K : AV → AH → Prop) : aAppendM Try.prog 34 34 s x h K = aApM (tms Try.prog 34) s x h K := aAppendM_eq sr34 (by rw [ms34]; rfl) s x K
theorem ae34_34 (s x : AV) (h : AH) (K : AV → AH → Prop) : aAppend Try.prog 34 34 s x h K = aAp (tap Try.prog 34) s x h K := aAppend_eq sr34 s x K
theorem ln34 : tlen Try.prog 34 = some .sl := by kernel_rfl
theorem sz36 : tsz Try.prog 36 = some 1 := by kernel_rfl
theorem ag36 : tag Try.prog 36 = some none := by kernel_rfl
theorem zc36 : tzc Try.prog 36 = some [.nilFunc] := by kernel_rfl
theorem sr36 : tsrc Try.prog 36 = true := by kernel_rfl
theorem sz37 : tsz Try.prog 37 = some 1 := by kernel_rfl
theorem ag37 : tag Try.prog 37 = some none := by kernel_rfl
theorem zc37 : tzc Try.prog 37 = some [.nilFunc] := by kernel_rfl
theorem sr37 : tsrc Try.prog 37 = true := by kernel_rfl
theorem sz38 : tsz Try.prog 38 = some 1 := by kernel_rfl
theorem ag38 : tag Try.prog 38 = some none := by kernel_rfl
theorem zc38 : tzc Try.prog 38 = some [.nilFunc] := by kernel_rfl
theorem sr38 : tsrc Try.prog 38 = true := by kernel_rfl
theorem sz39 : tsz Try.prog 39 = some 8 := by kernel_rfl
theorem ag39 : tag Try.prog 39 = some (some 8) := by kernel_rfl
theorem zc39 : tzc Try.prog 39 = some [(.int .i64 0), (.int .i64 0), (.int .i64 0), (.int .i64 0), (.int .i64 0), (.int .i64 0), (.int .i64 0), (.bool false)] := by kernel_rfl
theorem sr39 : tsrc Try.prog 39 = true := by kernel_rfl
theorem fd39_0 : tfd Try.prog 39 0 = some (0, 3) := by kernel_rfl
theorem fo39_0 : tfo Try.prog 39 0 = some 0 := by kernel_rfl
theorem fd39_1 : tfd Try.prog 39 1 = some (1, 3) := by kernel_rfl
theorem fo39_1 : tfo Try.prog 39 1 = some 1 := by kernel_rfl
theorem fd39_2 : tfd Try.prog 39 2 = some (2, 3) := by kernel_rfl
theorem fo39_2 : tfo Try.prog 39 2 = some 2 := by kernel_rfl
theorem fd39_3 : tfd Try.prog 39 3 = some (3, 3) := by kernel_rfl
theorem fo39_3 : tfo Try.prog 39 3 = some 3 := by kernel_rfl
theorem fd39_4 : tfd Try.prog 39 4 = some (4, 3) := by kernel_rfl
theorem fo39_4 : tfo Try.prog 39 4 = some 4 := by kernel_rfl
theorem fd39_5 : tfd Try.prog 39 5 = some (5, 3) := by kernel_rfl
theorem fo39_5 : tfo Try.prog 39 5 = some 5 := by kernel_rfl
theorem fd39_6 : tfd Try.prog 39 6 = some (6, 3) := by kernel_rfl
theorem fo39_6 : tfo Try.prog 39 6 = some 6 := by kernel_rfl
theorem fd39_7 : tfd Try.prog 39 7 = some (7, 4) := by kernel_rfl
theorem fo39_7 : tfo Try.prog 39 7 = some 7 := by kernel_rfl
theorem pl39 : tpl Try.prog 39 = some [(0, 1), (1, 1), (2, 1), (3, 1), (4, 1), (5, 1), (6, 1), (7, 1)] := by kernel_rfl
theorem bd39 (ps : List (Nat × AV)) (K : AV → Prop) : aBuild Try.prog 39 ps K = aBld (tpl Try.prog 39) (tzc Try.prog 39) ps K := aBuild_eq (by rw [pl39]; rfl) ps K
theorem sz40 : tsz Try.prog 40 = some 8 := by kernel_rfl
theorem ag40 : tag Try.prog 40 = some (some 8) := by kernel_rfl
theorem zc40 : tzc Try.prog 40 = some [(.int .i64 0), (.int .i64 0), (.int .i64 0), (.int .i64 0), (.int .i64 0), (.int .i64 0), (.int .i64 0), (.bool false)] := by kernel_rfl
theorem sr40 : tsrc Try.prog 40 = true := by kernel_rfl
theorem fd40_0 : tfd Try.prog 40 0 = some (0, 3) := by kernel_rfl
theorem fo40_0 : tfo Try.prog 40 0 = some 0 := by kernel_rfl
theorem fd40_1 : tfd Try.prog 40 1 = some (1, 3) := by kernel_rfl
theorem fo40_1 : tfo Try.prog 40 1 = some 1 := by kernel_rfl
theorem fd40_2 : tfd Try.prog 40 2 = some (2, 3) := by kernel_rfl
theorem fo40_2 : tfo Try.prog 40 2 = some 2 := by kernel_rfl
theorem fd40_3 : tfd Try.prog 40 3 = some (3, 3) := by kernel_rfl
theorem fo40_3 : tfo Try.prog 40 3 = some 3 := by kernel_rfl
theorem fd40_4 : tfd Try.prog 40 4 = some (4, 3) := by kernel_rfl
theorem fo40_4 : tfo Try.prog 40 4 = some 4 := by kernel_rfl
theorem fd40_5 : tfd Try.prog 40 5 = some (5, 3) := by kernel_rfl
theorem fo40_5 : tfo Try.prog 40 5 = some 5 := by kernel_rfl
theorem fd40_6 : tfd Try.prog 40 6 = some (6, 3) := by kernel_rfl
theorem fo40_6 : tfo Try.prog 40 6 = some 6 := by kernel_rfl
theorem fd40_7 : tfd Try.prog 40 7 = some (7, 4) := by kernel_rfl
theorem fo40_7 : tfo Try.prog 40 7 = some 7 := by kernel_rfl
theorem pl40 : tpl Try.prog 40 = some [(0, 1), (1, 1), (2, 1), (3, 1), (4, 1), (5, 1), (6, 1), (7, 1)] := by kernel_rfl
theorem bd40 (ps : List (Nat × AV)) (K : AV → Prop) : aBuild Try.prog 40 ps K = aBld (tpl Try.prog 40) (tzc Try.prog 40) ps K := aBuild_eq (by rw [pl40]; rfl) ps K
theorem es40 : teqS Try.prog 40 = some [(0, .int), (1, .int), (2, .int), (3, .int), (4, .int), (5, .int), (6, .int), (7, .bool)] := by kernel_rfl
theorem ni40 : tni Try.prog 40 = true := by kernel_rfl
theorem ta40 : tas Try.prog 40 = some (.agg [(.int .i64 0), (.int .i64 0), (.int .i64 0), (.int .i64 0), (.int .i64 0), (.int .i64 0), (.int .i64 0), (.bool false)]) := by kernel_rfl
theorem sz41 : tsz Try.prog 41 = some 5 := by kernel_rfl
theorem ag41 : tag Try.prog 41 = some (some 5) := by kernel_rfl
theorem zc41 : tzc Try.prog 41 = some [(.int .i64 0), (.int .i64 0), (.int .i64 0), (.int .i64 0), (.int .i64 0)] := by kernel_rfl
theorem sr41 : tsrc Try.prog 41 = true := by kernel_rfl
theorem fd41_0 : tfd Try.prog 41 0 = some (0, 3) := by kernel_rfl
theorem fo41_0 : tfo Try.prog 41 0 = some 0 := by kernel_rfl
theorem fd41_1 : tfd Try.prog 41 1 = some (1, 3) := by kernel_rfl
theorem fo41_1 : tfo Try.prog 41 1 = some 1 := by kernel_rfl
theorem fd41_2 : tfd Try.prog 41 2 = some (2, 3) := by kernel_rfl
theorem fo41_2 : tfo Try.prog 41 2 = some 2 := by kernel_rfl
theorem fd41_3 : tfd Try.prog 41 3 = some (3, 3) := by kernel_rfl
theorem fo41_3 : tfo Try.prog 41 3 = some 3 := by kernel_rfl
theorem fd41_4 : tfd Try.prog 41 4 = some (4, 3) := by kernel_rfl
theorem fo41_4 : tfo Try.prog 41 4 = some 4 := by kernel_rfl
theorem pl41 : tpl Try.prog 41 = some [(0, 1), (1, 1), (2, 1), (3, 1), (4, 1)] := by kernel_rfl
theorem bd41 (ps : List (Nat × AV)) (K : AV → Prop) : aBuild Try.prog 41 ps K = aBld (tpl Try.prog 41) (tzc Try.prog 41) ps K := aBuild_eq (by rw [pl41]; rfl) ps K
theorem sz42 : tsz Try.prog 42 = some 5 := by kernel_rfl
theorem ag42 : tag Try.prog 42 = some (some 5) := by kernel_rfl
theorem zc42 : tzc Try.prog 42 = some [(.int .i64 0), (.int .i64 0), (.int .i64 0), (.int .i64 0), (.int .i64 0)] := by kernel_rfl
theorem sr42 : tsrc Try.prog 42 = true := by kernel_rfl
theorem fd42_0 : tfd Try.prog 42 0 = some (0, 3) := by kernel_rfl
theorem fo42_0 : tfo Try.prog 42 0 = some 0 := by kernel_rfl
theorem fd42_1 : tfd Try.prog 42 1 = some (1, 3) := by kernel_rfl
theorem fo42_1 : tfo Try.prog 42 1 = some 1 := by kernel_rfl
theorem fd42_2 : tfd Try.prog 42 2 = some (2, 3) := by kernel_rfl
theorem fo42_2 : tfo Try.prog 42 2 = some 2 := by kernel_rfl
theorem fd42_3 : tfd Try.prog 42 3 = some (3, 3) := by kernel_rfl
theorem fo42_3 : tfo Try.prog 42 3 = some 3 := by kernel_rfl
theorem fd42_4 : tfd Try.prog 42 4 = some (4, 3) := by kernel_rfl
theorem fo42_4 : tfo Try.prog 42 4 = some 4 := by kernel_rfl
theorem pl42 : tpl Try.prog 42 = some [(0, 1), (1, 1), (2, 1), (3, 1), (4, 1)] := by kernel_rfl
theorem bd42 (ps : List (Nat × AV)) (K : AV → Prop) : aBuild Try.prog 42 ps K = aBld (tpl Try.prog 42) (tzc Try.prog 42) ps K := aBuild_eq (by rw [pl42]; rfl) ps K
theorem es42 : teqS Try.prog 42 = some [(0, .int), (1, .int), (2, .int), (3, .int), (4, .int)] := by kernel_rfl
theorem ni42 : tni Try.prog 42 = true := by kernel_rfl
theorem ta42 : tas Try.prog 42 = some (.agg [(.int .i64 0), (.int .i64 0), (.int .i64 0), (.int .i64 0), (.int .i64 0)]) := by kernel_rfl
theorem sz44 : tsz Try.prog 44 = some 1 := by kernel_rfl
theorem ag44 : tag Try.prog 44 = some none := by kernel_rfl
theorem zc44 : tzc Try.prog 44 = some [.nilFunc] := by kernel_rfl
theorem sr44 : tsrc Try.prog 44 = true := by kernel_rfl
theorem sz45 : tsz Try.prog 45 = some 1 := by kernel_rfl
theorem ag45 : tag Try.prog 45 = some none := by kernel_rfl
theorem zc45 : tzc Try.prog 45 = some [.nilFunc] := by kernel_rfl
theorem sr45 : tsrc Try.prog 45 = true := by kernel_rfl
theorem sz46 : tsz Try.prog 46 = some 1 := by kernel_rfl
theorem ag46 : tag Try.prog 46 = some none := by kernel_rfl
theorem zc46 : tzc Try.prog 46 = some [.nilFunc] := by kernel_rfl
theorem sr46 : tsrc Try.prog 46 = true := by kernel_rfl
theorem sz47 : tsz Try.prog 47 = some 3 := by kernel_rfl
theorem ag47 : tag Try.prog 47 = some (some 3) := by kernel_rfl
theorem zc47 : tzc Try.prog 47 = some [(.int .i64 0), (.int .i64 0), (.bool false)] := by kernel_rfl
theorem sr47 : tsrc Try.prog 47 = true := by kernel_rfl
theorem fd47_0 : tfd Try.prog 47 0 = some (0, 3) := by kernel_rfl
theorem fo47_0 : tfo Try.prog 47 0 = some 0 := by kernel_rfl
theorem fd47_1 : tfd Try.prog 47 1 = some (1, 3) := by kernel_rfl
theorem fo47_1 : tfo Try.prog 47 1 = some 1 := by kernel_rfl
theorem fd47_2 : tfd Try.prog 47 2 = some (2, 4) := by kernel_rfl
theorem fo47_2 : tfo Try.prog 47 2 = some 2 := by kernel_rfl
theorem pl47 : tpl Try.prog 47 = some [(0, 1), (1, 1), (2, 1)] := by kernel_rfl
theorem bd47 (ps : List (Nat × AV)) (K : AV → Prop) : aBuild Try.prog 47 ps K = aBld (tpl Try.prog 47) (tzc Try.prog 47) ps K := aBuild_eq (by rw [pl47]; rfl) ps K
theorem sz48 : tsz Try.prog 48 = some 3 := by kernel_rfl
theorem ag48 : tag Try.prog 48 = some (some 3) := by kernel_rfl
theorem zc48 : tzc Try.prog 48 = some [(.int .i64 0), (.int .i64 0), (.bool false)] := by kernel_rfl
theorem sr48 : tsrc Try.prog 48 = true := by kernel_rfl
theorem fd48_0 : tfd Try.prog 48 0 = some (0, 3) := by kernel_rfl
theorem fo48_0 : tfo Try.prog 48 0 = some 0 := by kernel_rfl
theorem fd48_1 : tfd Try.prog 48 1 = some (1, 3) := by kernel_rfl
theorem fo48_1 : tfo Try.prog 48 1 = some 1 := by kernel_rfl
theorem fd48_2 : tfd Try.prog 48 2 = some (2, 4) := by kernel_rfl
theorem fo48_2 : tfo Try.prog 48 2 = some 2 := by kernel_rfl
theorem pl48 : tpl Try.prog 48 = some [(0, 1), (1, 1), (2, 1)] := by kernel_rfl
theorem bd48 (ps : List (Nat × AV)) (K : AV → Prop) : aBuild Try.prog 48 ps K = aBld (tpl Try.prog 48) (tzc Try.prog 48) ps K := aBuild_eq (by rw [pl48]; rfl) ps K
theorem es48 : teqS Try.prog 48 = some [(0, .int), (1, .int), (2, .bool)] := by kernel_rfl
theorem ni48 : tni Try.prog 48 = true := by kernel_rfl
theorem ta48 : tas Try.prog 48 = some (.agg [(.int .i64 0), (.int .i64 0), (.bool false)]) := by kernel_rfl
theorem sz50 : tsz Try.prog 50 = some 1 := by kernel_rfl
theorem ag50 : tag Try.prog 50 = some none := by kernel_rfl
theorem zc50 : tzc Try.prog 50 = some [.nilFunc] := by kernel_rfl
theorem sr50 : tsrc Try.prog 50 = true := by kernel_rfl
theorem sz51 : tsz Try.prog 51 = some 1 := by kernel_rfl
theorem ag51 : tag Try.prog 51 = some none := by kernel_rfl
theorem zc51 : tzc Try.prog 51 = some [.nilFunc] := by kernel_rfl
theorem sr51 : tsrc Try.prog 51 = true := by kernel_rfl
theorem sz52 : tsz Try.prog 52 = some 1 := by kernel_rfl
theorem ag52 : tag Try.prog 52 = some none := by kernel_rfl
theorem zc52 : tzc Try.prog 52 = some [(.sl [] .full)] := by kernel_rfl
theorem sr52 : tsrc Try.prog 52 = true := by kernel_rfl
theorem el52 : tel Try.prog 52 = some (none, 3) := by kernel_rfl
theorem cu52 : tcut Try.prog 52 = some (some 3) := by kernel_rfl
theorem ap52 : tap Try.prog 52 = some (3, 40) := by kernel_rfl
theorem bs52 : tbs Try.prog 52 = some 3 := by kernel_rfl
theorem ms52 : tms Try.prog 52 = some (3, 40, [(.int .i64 0), (.int .i64 0), (.sl [] .full)], 54) := by kernel_rfl
theorem mm52 (l c : AV) (h : AH) (K : AV → AH → Prop) : aMakeSlice Try.prog 52 l c h K = aMkT (tms Try.prog 52) l c h K := aMakeSlice_eq (by rw [ms52]; rfl) l c K
theorem mc52 (x : AV) (h : AH) (K : AV → AH → Prop) : aClear Try.prog 52 x h K = aClT (tms Try.prog 52) x h K := aClear_eq (by rw [ms52]; rfl) x K
theorem mb52 (n : Nat) (ps : List (Nat × AV)) (h : AH) (K : AV → AH → Prop) : aBuildSliceM Try.prog 52 n ps h K = aBsM (tms Try.prog 52) n ps h K := aBuildSliceM_eq (by rw [ms52]; rfl) n ps K
theorem ma52 (s x : AV) (h : AH) (K : AV → AH → Prop) : aAppendM Try.prog 52 52 s x h K = aApM (tms Try.prog 52) s x h K := aAppendM_eq sr52 (by rw [ms52]; rfl) s x K
theorem ae52_52 (s x : AV) (h : AH) (K : AV → AH → Prop) : aAppend Try.prog 52 52 s x h K = aAp (tap Try.prog 52) s x h K := aAppend_eq sr52 s x K
theorem ln52 : tlen Try.prog 52 = some .sl := by kernel_rfl
theorem sz53 : tsz Try.prog 53 = some 3 := by kernel_rfl
theorem ag53 : tag Try.prog 53 = some (some 3) := by kernel_rfl
theorem zc53 : tzc Try.prog 53 = some [(.int .i64 0), (.int .i64 0), (.sl [] .full)] := by kernel_rfl
theorem sr53 : tsrc Try.prog 53 = true := by kernel_rfl
theorem fd53_0 : tfd Try.prog 53 0 = some (0, 3) := by kernel_rfl
theorem fo53_0 : tfo Try.prog 53 0 = some 0 := by kernel_rfl
theorem fd53_1 : tfd Try.prog 53 1 = some (1, 3) := by kernel_rfl
theorem fo53_1 : tfo Try.prog 53 1 = some 1 := by kernel_rfl
theorem fd53_2 : tfd Try.prog 53 2 = some (2, 52) := by kernel_rfl
theorem fo53_2 : tfo Try.prog 53 2 = some 2 := by kernel_rfl
theorem pl53 : tpl Try.prog 53 = some [(0, 1), (1, 1), (2, 1)] := by kernel_rfl
theorem bd53 (ps : List (Nat × AV)) (K : AV → Prop) : aBuild Try.prog 53 ps K = aBld (tpl Try.prog 53) (tzc Try.prog 53) ps K := aBuild_eq (by rw [pl53]; rfl) ps K
theorem sz54 : tsz Try.prog 54 = some 3 := by kernel_rfl
theorem ag54 : tag Try.prog 54 = some (some 3) := by kernel_rfl
theorem zc54 : tzc Try.prog 54 = some [(.int .i64 0), (.int .i64 0), (.sl [] .full)] := by kernel_rfl
theorem sr54 : tsrc Try.prog 54 = true := by kernel_rfl
theorem fd54_0 : tfd Try.prog 54 0 = some (0, 3) := by kernel_rfl
theorem fo54_0 : tfo Try.prog 54 0 = some 0 := by kernel_rfl
theorem fd54_1 : tfd Try.prog 54 1 = some (1, 3) := by kernel_rfl
theorem fo54_1 : tfo Try.prog 54 1 = some 1 := by kernel_rfl
theorem fd54_2 : tfd Try.prog 54 2 = some (2, 52) := by kernel_rfl
theorem fo54_2 : tfo Try.prog 54 2 = some 2 := by kernel_rfl
theorem pl54 : tpl Try.prog 54 = some [(0, 1), (1, 1), (2, 1)] := by kernel_rfl
theorem bd54 (ps : List (Nat × AV)) (K : AV → Prop) : aBuild Try.prog 54 ps K = aBld (tpl Try.prog 54) (tzc Try.prog 54) ps K := aBuild_eq (by rw [pl54]; rfl) ps K
theorem ni54 : tni Try.prog 54 = true := by kernel_rfl
theorem ta54 : tas Try.prog 54 = some (.agg [(.int .i64 0), (.int .i64 0), (.sl [] .full)]) := by kernel_rfl
theorem sz55 : tsz Try.prog 55 = some 1 := by kernel_rfl
theorem ag55 : tag Try.prog 55 = some none := by kernel_rfl
theorem zc55 : tzc Try.prog 55 = some [(.sl [] .full)] := by kernel_rfl
theorem sr55 : tsrc Try.prog 55 = true := by kernel_rfl
theorem el55 : tel Try.prog 55 = some (none, 1) := by kernel_rfl
theorem cu55 : tcut Try.prog 55 = some (some 1) := by kernel_rfl
theorem ap55 : tap Try.prog 55 = some (1, 24) := by kernel_rfl
theorem bs55 : tbs Try.prog 55 = some 1 := by kernel_rfl
theorem ms55 : tms Try.prog 55 = some (1, 24, [(.sl [] .full)], 29) := by kernel_rfl
theorem mm55 (l c : AV) (h : AH) (K : AV → AH → Prop) : aMakeSlice Try.prog 55 l c h K = aMkT (tms Try.prog 55) l c h K := aMakeSlice_eq (by rw [ms55]; rfl) l c K
theorem mc55 (x : AV) (h : AH) (K : AV → AH → Prop) : aClear Try.prog 55 x h K = aClT (tms Try.prog 55) x h K := aClear_eq (by rw [ms55]; rfl) x K
theorem mb55 (n : Nat) (ps : List (Nat × AV)) (h : AH) (K : AV → AH → Prop) : aBuildSliceM Try.prog 55 n ps h K = aBsM (tms Try.prog 55) n ps h K := aBuildSliceM_eq (by rw [ms55]; rfl) n ps K
theorem ma55 (s x : AV) (h : AH) (K : AV → AH → Prop) : aAppendM Try.prog 55 55 s x h K = aApM (tms Try.prog 55) s x h K := aAppendM_eq sr55 (by rw [ms55]; rfl) s x K
theorem ae55_55 (s x : AV) (h : AH) (K : AV → AH → Prop) : aAppend Try.prog 55 55 s x h K = aAp (tap Try.prog 55) s x h K := aAppend_eq sr55 s x K
theorem ln55 : tlen Try.prog 55 = some .sl := by kernel_rfl
theorem sz56 : tsz Try.prog 56 = some 1 := by kernel_rfl
theorem ag56 : tag Try.prog 56 = some none := by kernel_rfl
theorem zc56 : tzc Try.prog 56 = some [.nilFunc] := by kernel_rfl
theorem sr56 : tsrc Try.prog 56 = true := by kernel_rfl
theorem sz57 : tsz Try.prog 57 = some 1 := by kernel_rfl
theorem ag57 : tag Try.prog 57 = some none := by kernel_rfl
theorem zc57 : tzc Try.prog 57 = some [.nilFunc] := by kernel_rfl
theorem sr57 : tsrc Try.prog 57 = true := by kernel_rfl
theorem sz59 : tsz Try.prog 59 = some 1 := by kernel_rfl
theorem ag59 : tag Try.prog 59 = some none := by kernel_rfl
theorem zc59 : tzc Try.prog 59 = some [.nilFunc] := by kernel_rfl
theorem sr59 : tsrc Try.prog 59 = true := by kernel_rfl
theorem sz61 : tsz Try.prog 61 = some 1 := by kernel_rfl
theorem ag61 : tag Try.prog 61 = some none := by kernel_rfl
theorem zc61 : tzc Try.prog 61 = some [.nilFunc] := by kernel_rfl
theorem sr61 : tsrc Try.prog 61 = true := by kernel_rfl
theorem sz63 : tsz Try.prog 63 = some 1 := by kernel_rfl
theorem ag63 : tag Try.prog 63 = some none := by kernel_rfl
theorem zc63 : tzc Try.prog 63 = some [.nilFunc] := by kernel_rfl
theorem sr63 : tsrc Try.prog 63 = true := by kernel_rfl
theorem sz64 : tsz Try.prog 64 = some 1 := by kernel_rfl
theorem ag64 : tag Try.prog 64 = some none := by kernel_rfl
theorem zc64 : tzc Try.prog 64 = some [.nilFunc] := by kernel_rfl
theorem sr64 : tsrc Try.prog 64 = true := by kernel_rfl
theorem sz65 : tsz Try.prog 65 = some 1 := by kernel_rfl
theorem ag65 : tag Try.prog 65 = some none := by kernel_rfl
theorem zc65 : tzc Try.prog 65 = some [.nilFunc] := by kernel_rfl
theorem sr65 : tsrc Try.prog 65 = true := by kernel_rfl
theorem sz66 : tsz Try.prog 66 = some 1 := by kernel_rfl
theorem ag66 : tag Try.prog 66 = some none := by kernel_rfl
theorem zc66 : tzc Try.prog 66 = some [.nilFunc] := by kernel_rfl
theorem sr66 : tsrc Try.prog 66 = true := by kernel_rfl
theorem sz67 : tsz Try.prog 67 = some 1 := by kernel_rfl
theorem ag67 : tag Try.prog 67 = some none := by kernel_rfl
theorem zc67 : tzc Try.prog 67 = some [.nilFunc] := by kernel_rfl
theorem sr67 : tsrc Try.prog 67 = true := by kernel_rfl
theorem sz68 : tsz Try.prog 68 = some 1 := by kernel_rfl
theorem ag68 : tag Try.prog 68 = some none := by kernel_rfl
theorem zc68 : tzc Try.prog 68 = some [.nilFunc] := by kernel_rfl
theorem sr68 : tsrc Try.prog 68 = true := by kernel_rfl
theorem sz69 : tsz Try.prog 69 = some 1 := by kernel_rfl
theorem ag69 : tag Try.prog 69 = some none := by kernel_rfl
theorem zc69 : tzc Try.prog 69 = some [.nilFunc] := by kernel_rfl
theorem sr69 : tsrc Try.prog 69 = true := by kernel_rfl
theorem sz70 : tsz Try.prog 70 = some 1 := by kernel_rfl
theorem ag70 : tag Try.prog 70 = some none := by kernel_rfl
theorem zc70 : tzc Try.prog 70 = some [.nilFunc] := by kernel_rfl
theorem sr70 : tsrc Try.prog 70 = true := by kernel_rfl
theorem sz71 : tsz Try.prog 71 = some 10 := by kernel_rfl
theorem ag71 : tag Try.prog 71 = some (some 10) := by kernel_rfl
theorem zc71 : tzc Try.prog 71 = some [(.int .i64 0), (.int .i64 0), (.int .i64 0), (.int .i64 0), (.int .i64 0), (.int .i64 0), (.int .i64 0), (.bool false), (.sl [] .full), (.int .i64 0)] := by kernel_rfl
theorem sr71 : tsrc Try.prog 71 = true := by kernel_rfl
theorem fd71_0 : tfd Try.prog 71 0 = some (0, 40) := by kernel_rfl
theorem fo71_0 : tfo Try.prog 71 0 = some 0 := by kernel_rfl
theorem fd71_1 : tfd Try.prog 71 1 = some (8, 23) := by kernel_rfl
theorem fo71_1 : tfo Try.prog 71 1 = some 8 := by kernel_rfl
theorem fd71_2 : tfd Try.prog 71 2 = some (9, 3) := by kernel_rfl
theorem fo71_2 : tfo Try.prog 71 2 = some 9 := by kernel_rfl
theorem pl71 : tpl Try.prog 71 = some [(0, 8), (8, 1), (9, 1)] := by kernel_rfl
theorem bd71 (ps : List (Nat × AV)) (K : AV → Prop) : aBuild Try.prog 71 ps K = aBld (tpl Try.prog 71) (tzc Try.prog 71) ps K := aBuild_eq (by rw [pl71]; rfl) ps K
theorem sz72 : tsz Try.prog 72 = some 10 := by kernel_rfl
theorem ag72 : tag Try.prog 72 = some (some 10) := by kernel_rfl
theorem zc72 : tzc Try.prog 72 = some [(.int .i64 0), (.int .i64 0), (.int .i64 0), (.int .i64 0), (.int .i64 0), (.int .i64 0), (.int .i64 0), (.bool false), (.sl [] .full), (.int .i64 0)] := by kernel_rfl
theorem sr72 : tsrc Try.prog 72 = true := by kernel_rfl
theorem fd72_0 : tfd Try.prog 72 0 = some (0, 40) := by kernel_rfl
theorem fo72_0 : tfo Try.prog 72 0 = some 0 := by kernel_rfl
theorem fd72_1 : tfd Try.prog 72 1 = some (8, 23) := by kernel_rfl
theorem fo72_1 : tfo Try.prog 72 1 = some 8 := by kernel_rfl
theorem fd72_2 : tfd Try.prog 72 2 = some (9, 3) := by kernel_rfl
theorem fo72_2 : tfo Try.prog 72 2 = some 9 := by kernel_rfl
theorem pl72 : tpl Try.prog 72 = some [(0, 8), (8, 1), (9, 1)] := by kernel_rfl
theorem bd72 (ps : List (Nat × AV)) (K : AV → Prop) : aBuild Try.prog 72 ps K = aBld (tpl Try.prog 72) (tzc Try.prog 72) ps K := aBuild_eq (by rw [pl72]; rfl) ps K
theorem ni72 : tni Try.prog 72 = true := by kernel_rfl
theorem ta72 : tas Try.prog 72 = some (.agg [(.int .i64 0), (.int .i64 0), (.int .i64 0), (.int .i64 0), (.int .i64 0), (.int .i64 0), (.int .i64 0), (.bool false), (.sl [] .full), (.int .i64 0)]) := by kernel_rfl
theorem sz74 : tsz Try.prog 74 = some 1 := by kernel_rfl
theorem ag74 : tag Try.prog 74 = some none := by kernel_rfl
theorem zc74 : tzc Try.prog 74 = some [.nilFunc] := by kernel_rfl
theorem sr74 : tsrc Try.prog 74 = true := by kernel_rfl
theorem sz75 : tsz Try.prog 75 = some 1 := by kernel_rfl
theorem ag75 : tag Try.prog 75 = some none := by kernel_rfl
theorem zc75 : tzc Try.prog 75 = some [.nilFunc] := by kernel_rfl
theorem sr75 : tsrc Try.prog 75 = true := by kernel_rfl
theorem sz76 : tsz Try.prog 76 = some 2 := by kernel_rfl
theorem ag76 : tag Try.prog 76 = some (some 2) := by kernel_rfl
theorem zc76 : tzc Try.prog 76 = some [(.int .i64 0), (.int .i64 0)] := by kernel_rfl
theorem sr76 : tsrc Try.prog 76 = true := by kernel_rfl
theorem fd76_0 : tfd Try.prog 76 0 = some (0, 3) := by kernel_rfl
theorem fo76_0 : tfo Try.prog 76 0 = some 0 := by kernel_rfl
theorem fd76_1 : tfd Try.prog 76 1 = some (1, 3) := by kernel_rfl
theorem fo76_1 : tfo Try.prog 76 1 = some 1 := by kernel_rfl
theorem pl76 : tpl Try.prog 76 = some [(0, 1), (1, 1)] := by kernel_rfl
theorem bd76 (ps : List (Nat × AV)) (K : AV → Prop) : aBuild Try.prog 76 ps K = aBld (tpl Try.prog 76) (tzc Try.prog 76) ps K := aBuild_eq (by rw [pl76]; rfl) ps K
theorem sz77 : tsz Try.prog 77 = some 2 := by kernel_rfl
theorem ag77 : tag Try.prog 77 = some (some 2) := by kernel_rfl
theorem zc77 : tzc Try.prog 77 = some [(.int .i64 0), (.int .i64 0)] := by kernel_rfl
theorem sr77 : tsrc Try.prog 77 = true := by kernel_rfl
theorem fd77_0 : tfd Try.prog 77 0 = some (0, 3) := by kernel_rfl
theorem fo77_0 : tfo Try.prog 77 0 = some 0 := by kernel_rfl
theorem fd77_1 : tfd Try.prog 77 1 = some (1, 3) := by kernel_rfl
theorem fo77_1 : tfo Try.prog 77 1 = some 1 := by kernel_rfl
theorem pl77 : tpl Try.prog 77 = some [(0, 1), (1, 1)] := by kernel_rfl
theorem bd77 (ps : List (Nat × AV)) (K : AV → Prop) : aBuild Try.prog 77 ps K = aBld (tpl Try.prog 77) (tzc Try.prog 77) ps K := aBuild_eq (by rw [pl77]; rfl) ps K
theorem es77 : teqS Try.prog 77 = some [(0, .int), (1, .int)] := by kernel_rfl
theorem ni77 : tni Try.prog 77 = true := by kernel_rfl
theorem ta77 : tas Try.prog 77 = some (.agg [(.int .i64 0), (.int .i64 0)]) := by kernel_rfl
theorem sz78 : tsz Try.prog 78 = some 1 := by kernel_rfl
theorem ag78 : tag Try.prog 78 = some none := by kernel_rfl
theorem zc78 : tzc Try.prog 78 = some [.nilFunc] := by kernel_rfl
theorem sr78 : tsrc Try.prog 78 = true := by kernel_rfl
theorem sz79 : tsz Try.prog 79 = some 1 := by kernel_rfl
theorem ag79 : tag Try.prog 79 = some none := by kernel_rfl
theorem zc79 : tzc Try.prog 79 = some [.nilFunc] := by kernel_rfl
theorem sr79 : tsrc Try.prog 79 = true := by kernel_rfl
theorem sz81 : tsz Try.prog 81 = some 1 := by kernel_rfl
theorem ag81 : tag Try.prog 81 = some none := by kernel_rfl
theorem zc81 : tzc Try.prog 81 = some [.nilFunc] := by kernel_rfl
theorem sr81 : tsrc Try.prog 81 = true := by kernel_rfl
theorem sz82 : tsz Try.prog 82 = some 1 := by kernel_rfl
theorem ag82 : tag Try.prog 82 = some none := by kernel_rfl
theorem zc82 : tzc Try.prog 82 = some [(.map none)] := by kernel_rfl
theorem sr82 : tsrc Try.prog 82 = true := by kernel_rfl
theorem ln82 : tlen Try.prog 82 = some .map := by kernel_rfl
theorem mk82 : tmk Try.prog 82 = some (true, (.bool false)) := by kernel_rfl
theorem sz83 : tsz Try.prog 83 = some 1 := by kernel_rfl
theorem ag83 : tag Try.prog 83 = some none := by kernel_rfl
theorem zc83 : tzc Try.prog 83 = some [.nilFunc] := by kernel_rfl
theorem sr83 : tsrc Try.prog 83 = true := by kernel_rfl
theorem sz84 : tsz Try.prog 84 = some 1 := by kernel_rfl
theorem ag84 : tag Try.prog 84 = some none := by kernel_rfl
theorem zc84 : tzc Try.prog 84 = some [.nilFunc] := by kernel_rfl
theorem sr84 : tsrc Try.prog 84 = true := by kernel_rfl
theorem sz85 : tsz Try.prog 85 = some 1 := by kernel_rfl
theorem ag85 : tag Try.prog 85 = some none := by kernel_rfl
theorem zc85 : tzc Try.prog 85 = some [.nilFunc] := by kernel_rfl
theorem sr85 : tsrc Try.prog 85 = true := by kernel_rfl
theorem sz86 : tsz Try.prog 86 = some 1 := by kernel_rfl
theorem ag86 : tag Try.prog 86 = some none := by kernel_rfl
theorem zc86 : tzc Try.prog 86 = some [.nilFunc] := by kernel_rfl
theorem sr86 : tsrc Try.prog 86 = true := by kernel_rfl
theorem sz87 : tsz Try.prog 87 = some 1 := by kernel_rfl
theorem ag87 : tag Try.prog 87 = some none := by kernel_rfl
theorem zc87 : tzc Try.prog 87 = some [.nilFunc] := by kernel_rfl
theorem sr87 : tsrc Try.prog 87 = true := by kernel_rfl
theorem sz88 : tsz Try.prog 88 = some 1 := by kernel_rfl
theorem ag88 : tag Try.prog 88 = some none := by kernel_rfl
theorem zc88 : tzc Try.prog 88 = some [.nilFunc] := by kernel_rfl
theorem sr88 : tsrc Try.prog 88 = true := by kernel_rfl
theorem sz89 : tsz Try.prog 89 = some 1 := by kernel_rfl
theorem ag89 : tag Try.prog 89 = some none := by kernel_rfl
theorem zc89 : tzc Try.prog 89 = some [(.map none)] := by kernel_rfl
theorem sr89 : tsrc Try.prog 89 = true := by kernel_rfl
theorem ln89 : tlen Try.prog 89 = some .map := by kernel_rfl
theorem mk89 : tmk Try.prog 89 = some (true, (.agg [(.int .i64 0), (.int .i64 0)])) := by kernel_rfl
theorem sz90 : tsz Try.prog 90 = some 1 := by kernel_rfl
theorem ag90 : tag Try.prog 90 = some none := by kernel_rfl
theorem zc90 : tzc Try.prog 90 = some [.nilFunc] := by kernel_rfl
theorem sr90 : tsrc Try.prog 90 = true := by kernel_rfl
theorem sz91 : tsz Try.prog 91 = some 1 := by kernel_rfl
theorem ag91 : tag Try.prog 91 = some none := by kernel_rfl
theorem zc91 : tzc Try.prog 91 = some [.nilFunc] := by kernel_rfl
theorem sr91 : tsrc Try.prog 91 = true := by kernel_rfl
theorem sz92 : tsz Try.prog 92 = some 1 := by kernel_rfl
theorem ag92 : tag Try.prog 92 = some none := by kernel_rfl
theorem zc92 : tzc Try.prog 92 = some [.nilFunc] := by kernel_rfl
theorem sr92 : tsrc Try.prog 92 = true := by kernel_rfl
theorem sz93 : tsz Try.prog 93 = some 1 := by kernel_rfl
theorem ag93 : tag Try.prog 93 = some none := by kernel_rfl
theorem zc93 : tzc Try.prog 93 = some [.nilFunc] := by kernel_rfl
theorem sr93 : tsrc Try.prog 93 = true := by kernel_rfl
theorem sz94 : tsz Try.prog 94 = some 1 := by kernel_rfl
theorem ag94 : tag Try.prog 94 = some none := by kernel_rfl
theorem zc94 : tzc Try.prog 94 = some [.nilFunc] := by kernel_rfl
theorem sr94 : tsrc Try.prog 94 = true := by kernel_rfl
theorem sz95 : tsz Try.prog 95 = some 1 := by kernel_rfl
theorem ag95 : tag Try.prog 95 = some none := by kernel_rfl
theorem zc95 : tzc Try.prog 95 = some [.nilFunc] := by kernel_rfl
theorem sr95 : tsrc Try.prog 95 = true := by kernel_rfl
theorem sz96 : tsz Try.prog 96 = some 1 := by kernel_rfl
theorem ag96 : tag Try.prog 96 = some none := by kernel_rfl
theorem zc96 : tzc Try.prog 96 = some [.nilFunc] := by kernel_rfl
theorem sr96 : tsrc Try.prog 96 = true := by kernel_rfl
theorem sz97 : tsz Try.prog 97 = some 1 := by kernel_rfl
theorem ag97 : tag Try.prog 97 = some none := by kernel_rfl
theorem zc97 : tzc Try.prog 97 = some [.nilFunc] := by kernel_rfl
theorem sr97 : tsrc Try.prog 97 = true := by kernel_rfl
theorem sz98 : tsz Try.prog 98 = some 1 := by kernel_rfl
theorem ag98 : tag Try.prog 98 = some none := by kernel_rfl
theorem zc98 : tzc Try.prog 98 = some [.nilFunc] := by kernel_rfl
theorem sr98 : tsrc Try.prog 98 = true := by kernel_rfl
theorem sz99 : tsz Try.prog 99 = some 1 := by kernel_rfl
theorem ag99 : tag Try.prog 99 = some none := by kernel_rfl
theorem zc99 : tzc Try.prog 99 = some [.nilFunc] := by kernel_rfl
theorem sr99 : tsrc Try.prog 99 = true := by kernel_rfl
theorem sz100 : tsz Try.prog 100 = some 1 := by kernel_rfl
theorem ag100 : tag Try.prog 100 = some none := by kernel_rfl
theorem zc100 : tzc Try.prog 100 = some [.nilFunc] := by kernel_rfl
theorem sr100 : tsrc Try.prog 100 = true := by kernel_rfl
theorem sz101 : tsz Try.prog 101 = some 1 := by kernel_rfl
theorem ag101 : tag Try.prog 101 = some none := by kernel_rfl
theorem zc101 : tzc Try.prog 101 = some [.nilFunc] := by kernel_rfl
theorem sr101 : tsrc Try.prog 101 = true := by kernel_rfl
theorem sz102 : tsz Try.prog 102 = some 1 := by kernel_rfl
theorem ag102 : tag Try.prog 102 = some none := by kernel_rfl
theorem zc102 : tzc Try.prog 102 = some [.nilFunc] := by kernel_rfl
theorem sr102 : tsrc Try.prog 102 = true := by kernel_rfl
theorem sz103 : tsz Try.prog 103 = some 1 := by kernel_rfl
theorem ag103 : tag Try.prog 103 = some none := by kernel_rfl
theorem zc103 : tzc Try.prog 103 = some [.nilFunc] := by kernel_rfl
theorem sr103 : tsrc Try.prog 103 = true := by kernel_rfl
theorem sz104 : tsz Try.prog 104 = some 1 := by kernel_rfl
theorem ag104 : tag Try.prog 104 = some none := by kernel_rfl
theorem zc104 : tzc Try.prog 104 = some [.nilFunc] := by kernel_rfl
theorem sr104 : tsrc Try.prog 104 = true := by kernel_rfl
theorem sz105 : tsz Try.prog 105 = some 1 := by kernel_rfl
theorem ag105 : tag Try.prog 105 = some none := by kernel_rfl
theorem zc105 : tzc Try.prog 105 = some [.nilFunc] := by kernel_rfl
theorem sr105 : tsrc Try.prog 105 = true := by kernel_rfl
theorem sz106 : tsz Try.prog 106 = some 1 := by kernel_rfl
theorem ag106 : tag Try.prog 106 = some none := by kernel_rfl
theorem zc106 : tzc Try.prog 106 = some [.nilFunc] := by kernel_rfl
theorem sr106 : tsrc Try.prog 106 = true := by kernel_rfl
theorem sz107 : tsz Try.prog 107 = some 1 := by kernel_rfl
theorem ag107 : tag Try.prog 107 = some none := by kernel_rfl
theorem zc107 : tzc Try.prog 107 = some [.nilFunc] := by kernel_rfl
theorem sr107 : tsrc Try.prog 107 = true := by kernel_rfl
theorem sz108 : tsz Try.prog 108 = some 1 := by kernel_rfl
theorem ag108 : tag Try.prog 108 = some none := by kernel_rfl
theorem zc108 : tzc Try.prog 108 = some [.nilFunc] := by kernel_rfl
theorem sr108 : tsrc Try.prog 108 = true := by kernel_rfl
theorem sz109 : tsz Try.prog 109 = some 1 := by kernel_rfl
theorem ag109 : tag Try.prog 109 = some none := by kernel_rfl
theorem zc109 : tzc Try.prog 109 = some [(.ptr none)] := by kernel_rfl
theorem sr109 : tsrc Try.prog 109 = true := by kernel_rfl
theorem ni109 : tni Try.prog 109 = true := by kernel_rfl
theorem ta109 : tas Try.prog 109 = some (.ptr none) := by kernel_rfl
theorem sz110 : tsz Try.prog 110 = some 1 := by kernel_rfl
theorem ag110 : tag Try.prog 110 = some none := by kernel_rfl
theorem zc110 : tzc Try.prog 110 = some [.nilFunc] := by kernel_rfl
theorem sr110 : tsrc Try.prog 110 = true := by kernel_rfl
theorem sz111 : tsz Try.prog 111 = some 1 := by kernel_rfl
theorem ag111 : tag Try.prog 111 = some none := by kernel_rfl
theorem zc111 : tzc Try.prog 111 = some [.nilFunc] := by kernel_rfl
theorem sr111 : tsrc Try.prog 111 = true := by kernel_rfl
theorem sz112 : tsz Try.prog 112 = some 1 := by kernel_rfl
theorem ag112 : tag Try.prog 112 = some none := by kernel_rfl
theorem zc112 : tzc Try.prog 112 = some [.nilFunc] := by kernel_rfl
theorem sr112 : tsrc Try.prog 112 = true := by kernel_rfl
theorem sz113 : tsz Try.prog 113 = some 1 := by kernel_rfl
theorem ag113 : tag Try.prog 113 = some none := by kernel_rfl
theorem zc113 : tzc Try.prog 113 = some [.nilFunc] := by kernel_rfl
theorem sr113 : tsrc Try.prog 113 = true := by kernel_rfl
theorem sz114 : tsz Try.prog 114 = some 1 := by kernel_rfl
theorem ag114 : tag Try.prog 114 = some none := by kernel_rfl
theorem zc114 : tzc Try.prog 114 = some [.nilFunc] := by kernel_rfl
theorem sr114 : tsrc Try.prog 114 = true := by kernel_rfl
theorem sz115 : tsz Try.prog 115 = some 1 := by kernel_rfl
theorem ag115 : tag Try.prog 115 = some none := by kernel_rfl
theorem zc115 : tzc Try.prog 115 = some [.nilFunc] := by kernel_rfl
theorem sr115 : tsrc Try.prog 115 = true := by kernel_rfl
theorem sz116 : tsz Try.prog 116 = some 1 := by kernel_rfl
theorem ag116 : tag Try.prog 116 = some none := by kernel_rfl
theorem zc116 : tzc Try.prog 116 = some [.nilFunc] := by kernel_rfl
theorem sr116 : tsrc Try.prog 116 = true := by kernel_rfl
theorem sz117 : tsz Try.prog 117 = some 1 := by kernel_rfl
theorem ag117 : tag Try.prog 117 = some none := by kernel_rfl
theorem zc117 : tzc Try.prog 117 = some [(.int .u64 0)] := by kernel_rfl
theorem sr117 : tsrc Try.prog 117 = false := by kernel_rfl
theorem sz118 : tsz Try.prog 118 = some 1 := by kernel_rfl
theorem ag118 : tag Try.prog 118 = some none := by kernel_rfl
theorem zc118 : tzc Try.prog 118 = some [(.int .u64 0)] := by kernel_rfl
theorem sr118 : tsrc Try.prog 118 = false := by kernel_rfl
theorem ni118 : tni Try.prog 118 = true := by kernel_rfl
theorem ta118 : tas Try.prog 118 = some (.int .u64 0) := by kernel_rfl
theorem sz119 : tsz Try.prog 119 = some 1 := by kernel_rfl
theorem ag119 : tag Try.prog 119 = some none := by kernel_rfl
theorem zc119 : tzc Try.prog 119 = some [.nilFunc] := by kernel_rfl
theorem sr119 : tsrc Try.prog 119 = true := by kernel_rfl
theorem sz120 : tsz Try.prog 120 = some 3 := by kernel_rfl
theorem ag120 : tag Try.prog 120 = some (some 3) := by kernel_rfl
theorem zc120 : tzc Try.prog 120 = some [(.sl [] .full), (.int .u64 0), .nilFunc] := by kernel_rfl
theorem sr120 : tsrc Try.prog 120 = true := by kernel_rfl
theorem fd120_0 : tfd Try.prog 120 0 = some (0, 29) := by kernel_rfl
theorem fo120_0 : tfo Try.prog 120 0 = some 0 := by kernel_rfl
theorem fd120_1 : tfd Try.prog 120 1 = some (1, 118) := by kernel_rfl
theorem fo120_1 : tfo Try.prog 120 1 = some 1 := by kernel_rfl
theorem fd120_2 : tfd Try.prog 120 2 = some (2, 119) := by kernel_rfl
theorem fo120_2 : tfo Try.prog 120 2 = some 2 := by kernel_rfl
theorem pl120 : tpl Try.prog 120 = some [(0, 1), (1, 1), (2, 1)] := by kernel_rfl
theorem bd120 (ps : List (Nat × AV)) (K : AV → Prop) : aBuild Try.prog 120 ps K = aBld (tpl Try.prog 120) (tzc Try.prog 120) ps K := aBuild_eq (by rw [pl120]; rfl) ps K
theorem sz121 : tsz Try.prog 121 = some 3 := by kernel_rfl
theorem ag121 : tag Try.prog 121 = some (some 3) := by kernel_rfl
theorem zc121 : tzc Try.prog 121 = some [(.sl [] .full), (.int .u64 0), .nilFunc] := by kernel_rfl
theorem sr121 : tsrc Try.prog 121 = true := by kernel_rfl
theorem fd121_0 : tfd Try.prog 121 0 = some (0, 29) := by kernel_rfl
theorem fo121_0 : tfo Try.prog 121 0 = some 0 := by kernel_rfl
theorem fd121_1 : tfd Try.prog 121 1 = some (1, 118) := by kernel_rfl
theorem fo121_1 : tfo Try.prog 121 1 = some 1 := by kernel_rfl
theorem fd121_2 : tfd Try.prog 121 2 = some (2, 119) := by kernel_rfl
theorem fo121_2 : tfo Try.prog 121 2 = some 2 := by kernel_rfl
theorem pl121 : tpl Try.prog 121 = some [(0, 1), (1, 1), (2, 1)] := by kernel_rfl
theorem bd121 (ps : List (Nat × AV)) (K : AV → Prop) : aBuild Try.prog 121 ps K = aBld (tpl Try.prog 121) (tzc Try.prog 121) ps K := aBuild_eq (by rw [pl121]; rfl) ps K
theorem ni121 : tni Try.prog 121 = true := by kernel_rfl
theorem ta121 : tas Try.prog 121 = some (.agg [(.sl [] .full), (.int .u64 0), .nilFunc]) := by kernel_rfl
theorem sz123 : tsz Try.prog 123 = some 1 := by kernel_rfl
theorem ag123 : tag Try.prog 123 = some none := by kernel_rfl
theorem zc123 : tzc Try.prog 123 = some [.nilFunc] := by kernel_rfl
theorem sr123 : tsrc Try.prog 123 = true := by kernel_rfl
theorem sz124 : tsz Try.prog 124 = some 1 := by kernel_rfl
theorem ag124 : tag Try.prog 124 = some none := by kernel_rfl
theorem zc124 : tzc Try.prog 124 = some [.nilFunc] := by kernel_rfl
theorem sr124 : tsrc Try.prog 124 = true := by kernel_rfl
theorem sz125 : tsz Try.prog 125 = some 1 := by kernel_rfl
theorem ag125 : tag Try.prog 125 = some none := by kernel_rfl
theorem zc125 : tzc Try.prog 125 = some [.nilFunc] := by kernel_rfl
theorem sr125 : tsrc Try.prog 125 = true := by kernel_rfl
theorem sz126 : tsz Try.prog 126 = some 1 := by kernel_rfl
theorem ag126 : tag Try.prog 126 = some none := by kernel_rfl
theorem zc126 : tzc Try.prog 126 = some [.nilFunc] := by kernel_rfl
theorem sr126 : tsrc Try.prog 126 = true := by kernel_rfl
theorem sz127 : tsz Try.prog 127 = some 1 := by kernel_rfl
theorem ag127 : tag Try.prog 127 = some none := by kernel_rfl
theorem zc127 : tzc Try.prog 127 = some [(.map none)] := by kernel_rfl
theorem sr127 : tsrc Try.prog 127 = true := by kernel_rfl
theorem ln127 : tlen Try.prog 127 = some .map := by kernel_rfl
theorem mk127 : tmk Try.prog 127 = some (true, (.int .i64 0)) := by kernel_rfl
theorem sz128 : tsz Try.prog 128 = some 1 := by kernel_rfl
theorem ag128 : tag Try.prog 128 = some none := by kernel_rfl
theorem zc128 : tzc Try.prog 128 = some [.nilFunc] := by kernel_rfl
theorem sr128 : tsrc Try.prog 128 = true := by kernel_rfl
theorem sz129 : tsz Try.prog 129 = some 1 := by kernel_rfl
theorem ag129 : tag Try.prog 129 = some none := by kernel_rfl
theorem zc129 : tzc Try.prog 129 = some [.nilFunc] := by kernel_rfl
theorem sr129 : tsrc Try.prog 129 = true := by kernel_rfl
theorem sz130 : tsz Try.prog 130 = some 1 := by kernel_rfl
theorem ag130 : tag Try.prog 130 = some none := by kernel_rfl
theorem zc130 : tzc Try.prog 130 = some [.nilFunc] := by kernel_rfl
theorem sr130 : tsrc Try.prog 130 = true := by kernel_rfl
theorem sz131 : tsz Try.prog 131 = some 1 := by kernel_rfl
theorem ag131 : tag Try.prog 131 = some none := by kernel_rfl
theorem zc131 : tzc Try.prog 131 = some [.nilFunc] := by kernel_rfl
theorem sr131 : tsrc Try.prog 131 = true := by kernel_rfl
theorem sz132 : tsz Try.prog 132 = some 1 := by kernel_rfl
theorem ag132 : tag Try.prog 132 = some none := by kernel_rfl
theorem zc132 : tzc Try.prog 132 = some [.nilFunc] := by kernel_rfl
theorem sr132 : tsrc Try.prog 132 = true := by kernel_rfl
theorem sz133 : tsz Try.prog 133 = some 1 := by kernel_rfl
theorem ag133 : tag Try.prog 133 = some none := by kernel_rfl
theorem zc133 : tzc Try.prog 133 = some [.nilFunc] := by kernel_rfl
theorem sr133 : tsrc Try.prog 133 = true := by kernel_rfl
theorem sz134 : tsz Try.prog 134 = some 1 := by kernel_rfl
theorem ag134 : tag Try.prog 134 = some none := by kernel_rfl
theorem zc134 : tzc Try.prog 134 = some [(.map none)] := by kernel_rfl
theorem sr134 : tsrc Try.prog 134 = true := by kernel_rfl
theorem ln134 : tlen Try.prog 134 = some .map := by kernel_rfl
theorem sz135 : tsz Try.prog 135 = some 2 := by kernel_rfl
theorem ag135 : tag Try.prog 135 = some (some 2) := by kernel_rfl
theorem zc135 : tzc Try.prog 135 = some [(.int .i64 0), (.int .i64 0)] := by kernel_rfl
theorem sr135 : tsrc Try.prog 135 = true := by kernel_rfl
theorem fd135_0 : tfd Try.prog 135 0 = some (0, 3) := by kernel_rfl
theorem fo135_0 : tfo Try.prog 135 0 = some 0 := by kernel_rfl
theorem fd135_1 : tfd Try.prog 135 1 = some (1, 3) := by kernel_rfl
theorem fo135_1 : tfo Try.prog 135 1 = some 1 := by kernel_rfl
theorem pl135 : tpl Try.prog 135 = some [(0, 1), (1, 1)] := by kernel_rfl
theorem bd135 (ps : List (Nat × AV)) (K : AV → Prop) : aBuild Try.prog 135 ps K = aBld (tpl Try.prog 135) (tzc Try.prog 135) ps K := aBuild_eq (by rw [pl135]; rfl) ps K
theorem sz136 : tsz Try.prog 136 = some 2 := by kernel_rfl
theorem ag136 : tag Try.prog 136 = some (some 2) := by kernel_rfl
theorem zc136 : tzc Try.prog 136 = some [(.int .i64 0), (.int .i64 0)] := by kernel_rfl
theorem sr136 : tsrc Try.prog 136 = true := by kernel_rfl
theorem fd136_0 : tfd Try.prog 136 0 = some (0, 3) := by kernel_rfl
theorem fo136_0 : tfo Try.prog 136 0 = some 0 := by kernel_rfl
theorem fd136_1 : tfd Try.prog 136 1 = some (1, 3) := by kernel_rfl
theorem fo136_1 : tfo Try.prog 136 1 = some 1 := by kernel_rfl
theorem pl136 : tpl Try.prog 136 = some [(0, 1), (1, 1)] := by kernel_rfl
theorem bd136 (ps : List (Nat × AV)) (K : AV → Prop) : aBuild Try.prog 136 ps K = aBld (tpl Try.prog 136) (tzc Try.prog 136) ps K := aBuild_eq (by rw [pl136]; rfl) ps K
theorem es136 : teqS Try.prog 136 = some [(0, .int), (1, .int)] := by kernel_rfl
theorem ni136 : tni Try.prog 136 = true := by kernel_rfl
theorem ta136 : tas Try.prog 136 = some (.agg [(.int .i64 0), (.int .i64 0)]) := by kernel_rfl
theorem sz138 : tsz Try.prog 138 = some 1 := by kernel_rfl
theorem ag138 : tag Try.prog 138 = some none := by kernel_rfl
theorem zc138 : tzc Try.prog 138 = some [.nilFunc] := by kernel_rfl
theorem sr138 : tsrc Try.prog 138 = true := by kernel_rfl
theorem sz140 : tsz Try.prog 140 = some 1 := by kernel_rfl
theorem ag140 : tag Try.prog 140 = some none := by kernel_rfl
theorem zc140 : tzc Try.prog 140 = some [.nilFunc] := by kernel_rfl
theorem sr140 : tsrc Try.prog 140 = true := by kernel_rfl
theorem sz141 : tsz Try.prog 141 = some 1 := by kernel_rfl
theorem ag141 : tag Try.prog 141 = some none := by kernel_rfl
theorem zc141 : tzc Try.prog 141 = some [.nilFunc] := by kernel_rfl
theorem sr141 : tsrc Try.prog 141 = true := by kernel_rfl
theorem sz142 : tsz Try.prog 142 = some 1 := by kernel_rfl
theorem ag142 : tag Try.prog 142 = some none := by kernel_rfl
theorem zc142 : tzc Try.prog 142 = some [.nilFunc] := by kernel_rfl
theorem sr142 : tsrc Try.prog 142 = true := by kernel_rfl
theorem sz143 : tsz Try.prog 143 = some 1 := by kernel_rfl
theorem ag143 : tag Try.prog 143 = some none := by kernel_rfl
theorem zc143 : tzc Try.prog 143 = some [.nilFunc] := by kernel_rfl
theorem sr143 : tsrc Try.prog 143 = true := by kernel_rfl
theorem sz144 : tsz Try.prog 144 = some 1 := by kernel_rfl
theorem ag144 : tag Try.prog 144 = some none := by kernel_rfl
theorem zc144 : tzc Try.prog 144 = some [(.sl [] .full)] := by kernel_rfl
theorem sr144 : tsrc Try.prog 144 = true := by kernel_rfl
theorem el144 : tel Try.prog 144 = some (none, 1) := by kernel_rfl
theorem cu144 : tcut Try.prog 144 = some (some 1) := by kernel_rfl
theorem ap144 : tap Try.prog 144 = some (1, 1) := by kernel_rfl
theorem bs144 : tbs Try.prog 144 = some 1 := by kernel_rfl
theorem ms144 : tms Try.prog 144 = some (1, 1, [(.bool false)], 4) := by kernel_rfl
theorem mm144 (l c : AV) (h : AH) (K : AV → AH → Prop) : aMakeSlice Try.prog 144 l c h K = aMkT (tms Try.prog 144) l c h K := aMakeSlice_eq (by rw [ms144]; rfl) l c K
theorem mc144 (x : AV) (h : AH) (K : AV → AH → Prop) : aClear Try.prog 144 x h K = aClT (tms Try.prog 144) x h K := aClear_eq (by rw [ms144]; rfl) x K
theorem mb144 (n : Nat) (ps : List (Nat × AV)) (h : AH) (K : AV → AH → Prop) : aBuildSliceM Try.prog 144 n ps h K = aBsM (tms Try.prog 144) n ps h K := aBuildSliceM_eq (by rw [ms144]; rfl) n ps K
theorem ma144 (s x : AV) (h : AH) (K : AV → AH → Prop) : aAppendM Try.prog 144 144 s x h K = aApM (tms Try.prog 144) s x h K := aAppendM_eq sr144 (by rw [ms144]; rfl) s x K
theorem ae144_144 (s x : AV) (h : AH) (K : AV → AH → Prop) : aAppend Try.prog 144 144 s x h K = aAp (tap Try.prog 144) s x h K := aAppend_eq sr144 s x K
theorem ln144 : tlen Try.prog 144 = some .sl := by kernel_rfl
theorem sz145 : tsz Try.prog 145 = some 1 := by kernel_rfl
theorem ag145 : tag Try.prog 145 = some none := by kernel_rfl
theorem zc145 : tzc Try.prog 145 = some [.nilFunc] := by kernel_rfl
theorem sr145 : tsrc Try.prog 145 = true := by kernel_rfl
theorem sz146 : tsz Try.prog 146 = some 1 := by kernel_rfl
theorem ag146 : tag Try.prog 146 = some none := by kernel_rfl
theorem zc146 : tzc Try.prog 146 = some [.nilFunc] := by kernel_rfl
theorem sr146 : tsrc Try.prog 146 = true := by kernel_rfl
theorem sz147 : tsz Try.prog 147 = some 1 := by kernel_rfl
theorem ag147 : tag Try.prog 147 = some none := by kernel_rfl
theorem zc147 : tzc Try.prog 147 = some [.nilFunc] := by kernel_rfl
theorem sr147 : tsrc Try.prog 147 = true := by kernel_rfl
theorem sz148 : tsz Try.prog 148 = some 1 := by kernel_rfl
theorem ag148 : tag Try.prog 148 = some none := by kernel_rfl
theorem zc148 : tzc Try.prog 148 = some [.nilFunc] := by kernel_rfl
theorem sr148 : tsrc Try.prog 148 = true := by kernel_rfl
theorem sz149 : tsz Try.prog 149 = some 1 := by kernel_rfl
theorem ag149 : tag Try.prog 149 = some none := by kernel_rfl
theorem zc149 : tzc Try.prog 149 = some [.nilFunc] := by kernel_rfl
theorem sr149 : tsrc Try.prog 149 = true := by kernel_rfl
theorem sz150 : tsz Try.prog 150 = some 1 := by kernel_rfl
theorem ag150 : tag Try.prog 150 = some none := by kernel_rfl
theorem zc150 : tzc Try.prog 150 = some [.nilFunc] := by kernel_rfl
theorem sr150 : tsrc Try.prog 150 = true := by kernel_rfl
theorem sz151 : tsz Try.prog 151 = some 1 := by kernel_rfl
theorem ag151 : tag Try.prog 151 = some none := by kernel_rfl
theorem zc151 : tzc Try.prog 151 = some [.nilFunc] := by kernel_rfl
theorem sr151 : tsrc Try.prog 151 = true := by kernel_rfl
theorem sz152 : tsz Try.prog 152 = some 1 := by kernel_rfl
theorem ag152 : tag Try.prog 152 = some none := by kernel_rfl
theorem zc152 : tzc Try.prog 152 = some [.nilFunc] := by kernel_rfl
theorem sr152 : tsrc Try.prog 152 = true := by kernel_rfl
theorem sz153 : tsz Try.prog 153 = some 1 := by kernel_rfl
theorem ag153 : tag Try.prog 153 = some none := by kernel_rfl
theorem zc153 : tzc Try.prog 153 = some [.nilFunc] := by kernel_rfl
theorem sr153 : tsrc Try.prog 153 = true := by kernel_rfl
theorem sz154 : tsz Try.prog 154 = some 1 := by kernel_rfl
theorem ag154 : tag Try.prog 154 = some none := by kernel_rfl
theorem zc154 : tzc Try.prog 154 = some [.nilFunc] := by kernel_rfl
theorem sr154 : tsrc Try.prog 154 = true := by kernel_rfl
theorem sz155 : tsz Try.prog 155 = some 1 := by kernel_rfl
theorem ag155 : tag Try.prog 155 = some none := by kernel_rfl
theorem zc155 : tzc Try.prog 155 = some [.nilFunc] := by kernel_rfl
theorem sr155 : tsrc Try.prog 155 = true := by kernel_rfl
theorem sz156 : tsz Try.prog 156 = some 1 := by kernel_rfl
theorem ag156 : tag Try.prog 156 = some none := by kernel_rfl
theorem zc156 : tzc Try.prog 156 = some [.nilFunc] := by kernel_rfl
theorem sr156 : tsrc Try.prog 156 = true := by kernel_rfl
theorem sz157 : tsz Try.prog 157 = some 1 := by kernel_rfl
theorem ag157 : tag Try.prog 157 = some none := by kernel_rfl
theorem zc157 : tzc Try.prog 157 = some [.nilFunc] := by kernel_rfl
theorem sr157 : tsrc Try.prog 157 = true := by kernel_rfl
theorem sz158 : tsz Try.prog 158 = some 1 := by kernel_rfl
theorem ag158 : tag Try.prog 158 = some none := by kernel_rfl
theorem zc158 : tzc Try.prog 158 = some [.nilFunc] := by kernel_rfl
theorem sr158 : tsrc Try.prog 158 = true := by kernel_rfl
theorem sz159 : tsz Try.prog 159 = some 1 := by kernel_rfl
theorem ag159 : tag Try.prog 159 = some none := by kernel_rfl
theorem zc159 : tzc Try.prog 159 = some [.nilFunc] := by kernel_rfl
theorem sr159 : tsrc Try.prog 159 = true := by kernel_rfl
theorem sz160 : tsz Try.prog 160 = some 1 := by kernel_rfl
theorem ag160 : tag Try.prog 160 = some none := by kernel_rfl
theorem zc160 : tzc Try.prog 160 = some [.nilFunc] := by kernel_rfl
theorem sr160 : tsrc Try.prog 160 = true := by kernel_rfl
theorem sz161 : tsz Try.prog 161 = some 1 := by kernel_rfl
theorem ag161 : tag Try.prog 161 = some none := by kernel_rfl
theorem zc161 : tzc Try.prog 161 = some [.nilFunc] := by kernel_rfl
theorem sr161 : tsrc Try.prog 161 = true := by kernel_rfl
theorem sz162 : tsz Try.prog 162 = some 1 := by kernel_rfl
theorem ag162 : tag Try.prog 162 = some none := by kernel_rfl
theorem zc162 : tzc Try.prog 162 = some [.nilFunc] := by kernel_rfl
theorem sr162 : tsrc Try.prog 162 = true := by kernel_rfl
theorem sz163 : tsz Try.prog 163 = some 1 := by kernel_rfl
theorem ag163 : tag Try.prog 163 = some none := by kernel_rfl
theorem zc163 : tzc Try.prog 163 = some [(.int .i64 0)] := by kernel_rfl
theorem sr163 : tsrc Try.prog 163 = false := by kernel_rfl
theorem ni163 : tni Try.prog 163 = true := by kernel_rfl
theorem ta163 : tas Try.prog 163 = some (.int .i64 0) := by kernel_rfl
theorem sz165 : tsz Try.prog 165 = some 1 := by kernel_rfl
theorem ag165 : tag Try.prog 165 = some none := by kernel_rfl
theorem zc165 : tzc Try.prog 165 = some [.nilFunc] := by kernel_rfl
theorem sr165 : tsrc Try.prog 165 = true := by kernel_rfl
theorem sz166 : tsz Try.prog 166 = some 1 := by kernel_rfl
theorem ag166 : tag Try.prog 166 = some none := by kernel_rfl
theorem zc166 : tzc Try.prog 166 = some [.nilFunc] := by kernel_rfl
theorem sr166 : tsrc Try.prog 166 = true := by kernel_rfl
theorem sz167 : tsz Try.prog 167 = some 1 := by kernel_rfl
theorem ag167 : tag Try.prog 167 = some none := by kernel_rfl
theorem zc167 : tzc Try.prog 167 = some [.nilFunc] := by kernel_rfl
theorem sr167 : tsrc Try.prog 167 = true := by kernel_rfl
theorem sz169 : tsz Try.prog 169 = some 1 := by kernel_rfl
theorem ag169 : tag Try.prog 169 = some none := by kernel_rfl
theorem zc169 : tzc Try.prog 169 = some [.nilFunc] := by kernel_rfl
theorem sr169 : tsrc Try.prog 169 = true := by kernel_rfl
theorem sz170 : tsz Try.prog 170 = some 1 := by kernel_rfl
theorem ag170 : tag Try.prog 170 = some none := by kernel_rfl
theorem zc170 : tzc Try.prog 170 = some [.nilFunc] := by kernel_rfl
theorem sr170 : tsrc Try.prog 170 = true := by kernel_rfl
theorem sz171 : tsz Try.prog 171 = some 1 := by kernel_rfl
theorem ag171 : tag Try.prog 171 = some none := by kernel_rfl
theorem zc171 : tzc Try.prog 171 = some [(.int .u32 0)] := by kernel_rfl
theorem sr171 : tsrc Try.prog 171 = false := by kernel_rfl
theorem sz172 : tsz Try.prog 172 = some 1 := by kernel_rfl
theorem ag172 : tag Try.prog 172 = some none := by kernel_rfl
theorem zc172 : tzc Try.prog 172 = some [.nilFunc] := by kernel_rfl
theorem sr172 : tsrc Try.prog 172 = true := by kernel_rfl
theorem sz173 : tsz Try.prog 173 = some 1 := by kernel_rfl
theorem ag173 : tag Try.prog 173 = some none := by kernel_rfl
theorem zc173 : tzc Try.prog 173 = some [(.int .u64 0)] := by kernel_rfl
theorem sr173 : tsrc Try.prog 173 = false := by kernel_rfl
theorem sz174 : tsz Try.prog 174 = some 1 := by kernel_rfl
theorem ag174 : tag Try.prog 174 = some none := by kernel_rfl
theorem zc174 : tzc Try.prog 174 = some [.nilFunc] := by kernel_rfl
theorem sr174 : tsrc Try.prog 174 = true := by kernel_rfl
theorem sz175 : tsz Try.prog 175 = some 1 := by kernel_rfl
theorem ag175 : tag Try.prog 175 = some none := by kernel_rfl
theorem zc175 : tzc Try.prog 175 = some [.nilFunc] := by kernel_rfl
theorem sr175 : tsrc Try.prog 175 = true := by kernel_rfl
theorem sz176 : tsz Try.prog 176 = some 1 := by kernel_rfl
theorem ag176 : tag Try.prog 176 = some none := by kernel_rfl
theorem zc176 : tzc Try.prog 176 = some [.nilFunc] := by kernel_rfl
theorem sr176 : tsrc Try.prog 176 = true := by kernel_rfl
theorem sz177 : tsz Try.prog 177 = some 1 := by kernel_rfl
theorem ag177 : tag Try.prog 177 = some none := by kernel_rfl
theorem zc177 : tzc Try.prog 177 = some [.nilFunc] := by kernel_rfl
theorem sr177 : tsrc Try.prog 177 = true := by kernel_rfl
theorem sz178 : tsz Try.prog 178 = some 1 := by kernel_rfl
theorem ag178 : tag Try.prog 178 = some none := by kernel_rfl
theorem zc178 : tzc Try.prog 178 = some [.nilFunc] := by kernel_rfl
theorem sr178 : tsrc Try.prog 178 = true := by kernel_rfl
theorem sz179 : tsz Try.prog 179 = some 1 := by kernel_rfl
theorem ag179 : tag Try.prog 179 = some none := by kernel_rfl
theorem zc179 : tzc Try.prog 179 = some [.nilFunc] := by kernel_rfl
theorem sr179 : tsrc Try.prog 179 = true := by kernel_rfl
theorem sz180 : tsz Try.prog 180 = some 1 := by kernel_rfl
theorem ag180 : tag Try.prog 180 = some none := by kernel_rfl
theorem zc180 : tzc Try.prog 180 = some [.nilFunc] := by kernel_rfl
theorem sr180 : tsrc Try.prog 180 = true := by kernel_rfl
theorem sz181 : tsz Try.prog 181 = some 1 := by kernel_rfl
theorem ag181 : tag Try.prog 181 = some none := by kernel_rfl
theorem zc181 : tzc Try.prog 181 = some [.nilFunc] := by kernel_rfl
theorem sr181 : tsrc Try.prog 181 = true := by kernel_rfl
theorem sz182 : tsz Try.prog 182 = some 1 := by kernel_rfl
theorem ag182 : tag Try.prog 182 = some none := by kernel_rfl
theorem zc182 : tzc Try.prog 182 = some [(.int .u64 0)] := by kernel_rfl
theorem sr182 : tsrc Try.prog 182 = false := by kernel_rfl
theorem ni182 : tni Try.prog 182 = true := by kernel_rfl
theorem ta182 : tas Try.prog 182 = some (.int .u64 0) := by kernel_rfl
theorem sz183 : tsz Try.prog 183 = some 1 := by kernel_rfl
theorem ag183 : tag Try.prog 183 = some none := by kernel_rfl
theorem zc183 : tzc Try.prog 183 = some [.nilFunc] := by kernel_rfl
theorem sr183 : tsrc Try.prog 183 = true := by kernel_rfl
theorem sz184 : tsz Try.prog 184 = some 1 := by kernel_rfl
theorem ag184 : tag Try.prog 184 = some none := by kernel_rfl
theorem zc184 : tzc Try.prog 184 = some [.nilFunc] := by kernel_rfl
theorem sr184 : tsrc Try.prog 184 = true := by kernel_rfl
theorem sz185 : tsz Try.prog 185 = some 1 := by kernel_rfl
theorem ag185 : tag Try.prog 185 = some none := by kernel_rfl
theorem zc185 : tzc Try.prog 185 = some [.nilFunc] := by kernel_rfl
theorem sr185 : tsrc Try.prog 185 = true := by kernel_rfl
theorem sz186 : tsz Try.prog 186 = some 1 := by kernel_rfl
theorem ag186 : tag Try.prog 186 = some none := by kernel_rfl
theorem zc186 : tzc Try.prog 186 = some [(.ptr none)] := by kernel_rfl
theorem sr186 : tsrc Try.prog 186 = true := by kernel_rfl
theorem ni186 : tni Try.prog 186 = true := by kernel_rfl
theorem ta186 : tas Try.prog 186 = some (.ptr none) := by kernel_rfl
theorem sz187 : tsz Try.prog 187 = some 1 := by kernel_rfl
theorem ag187 : tag Try.prog 187 = some none := by kernel_rfl
theorem zc187 : tzc Try.prog 187 = some [.nilFunc] := by kernel_rfl
theorem sr187 : tsrc Try.prog 187 = true := by kernel_rfl
theorem sz188 : tsz Try.prog 188 = some 1 := by kernel_rfl
theorem ag188 : tag Try.prog 188 = some none := by kernel_rfl
theorem zc188 : tzc Try.prog 188 = some [.nilFunc] := by kernel_rfl
theorem sr188 : tsrc Try.prog 188 = true := by kernel_rfl
theorem sz189 : tsz Try.prog 189 = some 1 := by kernel_rfl
theorem ag189 : tag Try.prog 189 = some none := by kernel_rfl
theorem zc189 : tzc Try.prog 189 = some [.nilFunc] := by kernel_rfl
theorem sr189 : tsrc Try.prog 189 = true := by kernel_rfl
theorem sz190 : tsz Try.prog 190 = some 1 := by kernel_rfl
theorem ag190 : tag Try.prog 190 = some none := by kernel_rfl
theorem zc190 : tzc Try.prog 190 = some [.nilFunc] := by kernel_rfl
theorem sr190 : tsrc Try.prog 190 = true := by kernel_rfl
theorem sz191 : tsz Try.prog 191 = some 1 := by kernel_rfl
theorem ag191 : tag Try.prog 191 = some none := by kernel_rfl
theorem zc191 : tzc Try.prog 191 = some [(.ptr none)] := by kernel_rfl
theorem sr191 : tsrc Try.prog 191 = true := by kernel_rfl
theorem ni191 : tni Try.prog 191 = true := by kernel_rfl
theorem ta191 : tas Try.prog 191 = some (.ptr none) := by kernel_rfl
theorem sz192 : tsz Try.prog 192 = some 1 := by kernel_rfl
theorem ag192 : tag Try.prog 192 = some none := by kernel_rfl
theorem zc192 : tzc Try.prog 192 = some [.nilFunc] := by kernel_rfl
theorem sr192 : tsrc Try.prog 192 = true := by kernel_rfl
theorem sz193 : tsz Try.prog 193 = some 1 := by kernel_rfl
theorem ag193 : tag Try.prog 193 = some none := by kernel_rfl
theorem zc193 : tzc Try.prog 193 = some [.nilFunc] := by kernel_rfl
theorem sr193 : tsrc Try.prog 193 = true := by kernel_rfl
theorem sz194 : tsz Try.prog 194 = some 1 := by kernel_rfl
theorem ag194 : tag Try.prog 194 = some none := by kernel_rfl
theorem zc194 : tzc Try.prog 194 = some [.nilFunc] := by kernel_rfl
theorem sr194 : tsrc Try.prog 194 = true := by kernel_rfl
theorem sz195 : tsz Try.prog 195 = some 4 := by kernel_rfl
theorem ag195 : tag Try.prog 195 = some (some 4) := by kernel_rfl
theorem zc195 : tzc Try.prog 195 = some [(.ptr none), (.ptr none), (.ptr none), (.str ⟨#[]⟩)] := by kernel_rfl
theorem sr195 : tsrc Try.prog 195 = true := by kernel_rfl
theorem fd195_0 : tfd Try.prog 195 0 = some (0, 17) := by kernel_rfl
theorem fo195_0 : tfo Try.prog 195 0 = some 0 := by kernel_rfl
theorem fd195_1 : tfd Try.prog 195 1 = some (1, 17) := by kernel_rfl
theorem fo195_1 : tfo Try.prog 195 1 = some 1 := by kernel_rfl
theorem fd195_2 : tfd Try.prog 195 2 = some (2, 17) := by kernel_rfl
theorem fo195_2 : tfo Try.prog 195 2 = some 2 := by kernel_rfl
theorem fd195_3 : tfd Try.prog 195 3 = some (3, 9) := by kernel_rfl
theorem fo195_3 : tfo Try.prog 195 3 = some 3 := by kernel_rfl
theorem pl195 : tpl Try.prog 195 = some [(0, 1), (1, 1), (2, 1), (3, 1)] := by kernel_rfl
theorem bd195 (ps : List (Nat × AV)) (K : AV → Prop) : aBuild Try.prog 195 ps K = aBld (tpl Try.prog 195) (tzc Try.prog 195) ps K := aBuild_eq (by rw [pl195]; rfl) ps K
theorem sz196 : tsz Try.prog 196 = some 4 := by kernel_rfl
theorem ag196 : tag Try.prog 196 = some (some 4) := by kernel_rfl
theorem zc196 : tzc Try.prog 196 = some [(.ptr none), (.ptr none), (.ptr none), (.str ⟨#[]⟩)] := by kernel_rfl
theorem sr196 : tsrc Try.prog 196 = true := by kernel_rfl
theorem fd196_0 : tfd Try.prog 196 0 = some (0, 17) := by kernel_rfl
theorem fo196_0 : tfo Try.prog 196 0 = some 0 := by kernel_rfl
theorem fd196_1 : tfd Try.prog 196 1 = some (1, 17) := by kernel_rfl
theorem fo196_1 : tfo Try.prog 196 1 = some 1 := by kernel_rfl
theorem fd196_2 : tfd Try.prog 196 2 = some (2, 17) := by kernel_rfl
theorem fo196_2 : tfo Try.prog 196 2 = some 2 := by kernel_rfl
theorem fd196_3 : tfd Try.prog 196 3 = some (3, 9) := by kernel_rfl
theorem fo196_3 : tfo Try.prog 196 3 = some 3 := by kernel_rfl
theorem pl196 : tpl Try.prog 196 = some [(0, 1), (1, 1), (2, 1), (3, 1)] := by kernel_rfl
theorem bd196 (ps : List (Nat × AV)) (K : AV → Prop) : aBuild Try.prog 196 ps K = aBld (tpl Try.prog 196) (tzc Try.prog 196) ps K := aBuild_eq (by rw [pl196]; rfl) ps K
theorem ni196 : tni Try.prog 196 = true := by kernel_rfl
theorem ta196 : tas Try.prog 196 = some (.agg [(.ptr none), (.ptr none), (.ptr none), (.str ⟨#[]⟩)]) := by kernel_rfl
theorem sz197 : tsz Try.prog 197 = some 0 := by kernel_rfl
theorem ag197 : tag Try.prog 197 = some (some 0) := by kernel_rfl
theorem zc197 : tzc Try.prog 197 = some [] := by kernel_rfl
theorem sr197 : tsrc Try.prog 197 = true := by kernel_rfl
theorem es197 : teqS Try.prog 197 = none := by kernel_rfl
theorem el197 : tel Try.prog 197 = some (some 0, 1) := by kernel_rfl
theorem ln197 : tlen Try.prog 197 = some (.arr 0) := by kernel_rfl
theorem sz198 : tsz Try.prog 198 = some 0 := by kernel_rfl
theorem ag198 : tag Try.prog 198 = some (some 0) := by kernel_rfl
theorem zc198 : tzc Try.prog 198 = some [] := by kernel_rfl
theorem sr198 : tsrc Try.prog 198 = true := by kernel_rfl
theorem fd198_0 : tfd Try.prog 198 0 = some (0, 197) := by kernel_rfl
theorem pl198 : tpl Try.prog 198 = some [(0, 0)] := by kernel_rfl
theorem bd198 (ps : List (Nat × AV)) (K : AV → Prop) : aBuild Try.prog 198 ps K = aBld (tpl Try.prog 198) (tzc Try.prog 198) ps K := aBuild_eq (by rw [pl198]; rfl) ps K
theorem sz199 : tsz Try.prog 199 = some 0 := by kernel_rfl
theorem ag199 : tag Try.prog 199 = some (some 0) := by kernel_rfl
theorem zc199 : tzc Try.prog 199 = some [] := by kernel_rfl
theorem sr199 : tsrc Try.prog 199 = true := by kernel_rfl
theorem fd199_0 : tfd Try.prog 199 0 = some (0, 197) := by kernel_rfl
theorem pl199 : tpl Try.prog 199 = some [(0, 0)] := by kernel_rfl
theorem bd199 (ps : List (Nat × AV)) (K : AV → Prop) : aBuild Try.prog 199 ps K = aBld (tpl Try.prog 199) (tzc Try.prog 199) ps K := aBuild_eq (by rw [pl199]; rfl) ps K
theorem ni199 : tni Try.prog 199 = true := by kernel_rfl
theorem ta199 : tas Try.prog 199 = some (.agg []) := by kernel_rfl
theorem sz200 : tsz Try.prog 200 = some 1 := by kernel_rfl
theorem ag200 : tag Try.prog 200 = some none := by kernel_rfl
theorem zc200 : tzc Try.prog 200 = some [.nilFunc] := by kernel_rfl
theorem sr200 : tsrc Try.prog 200 = true := by kernel_rfl
theorem sz201 : tsz Try.prog 201 = some 1 := by kernel_rfl
theorem ag201 : tag Try.prog 201 = some none := by kernel_rfl
theorem zc201 : tzc Try.prog 201 = some [(.int .u8 0)] := by kernel_rfl
theorem sr201 : tsrc Try.prog 201 = false := by kernel_rfl
theorem ni201 : tni Try.prog 201 = true := by kernel_rfl
theorem ta201 : tas Try.prog 201 = some (.int .u8 0) := by kernel_rfl
theorem sz202 : tsz Try.prog 202 = some 1 := by kernel_rfl
theorem ag202 : tag Try.prog 202 = some none := by kernel_rfl
theorem zc202 : tzc Try.prog 202 = some [(.int .u8 0)] := by kernel_rfl
theorem sr202 : tsrc Try.prog 202 = false := by kernel_rfl
theorem ni202 : tni Try.prog 202 = true := by kernel_rfl
theorem ta202 : tas Try.prog 202 = some (.int .u8 0) := by kernel_rfl
theorem sz203 : tsz Try.prog 203 = some 1 := by kernel_rfl
theorem ag203 : tag Try.prog 203 = some none := by kernel_rfl
theorem zc203 : tzc Try.prog 203 = some [.nilFunc] := by kernel_rfl
theorem sr203 : tsrc Try.prog 203 = true := by kernel_rfl
theorem sz204 : tsz Try.prog 204 = some 1 := by kernel_rfl
theorem ag204 : tag Try.prog 204 = some none := by kernel_rfl
theorem zc204 : tzc Try.prog 204 = some [(.ptr none)] := by kernel_rfl
theorem sr204 : tsrc Try.prog 204 = true := by kernel_rfl
theorem ni204 : tni Try.prog 204 = true := by kernel_rfl
theorem ta204 : tas Try.prog 204 = some (.ptr none) := by kernel_rfl
theorem sz205 : tsz Try.prog 205 = some 1 := by kernel_rfl
theorem ag205 : tag Try.prog 205 = some none := by kernel_rfl
theorem zc205 : tzc Try.prog 205 = some [(.int .i32 0)] := by kernel_rfl
theorem sr205 : tsrc Try.prog 205 = false := by kernel_rfl
theorem ni205 : tni Try.prog 205 = true := by kernel_rfl
theorem ta205 : tas Try.prog 205 = some (.int .i32 0) := by kernel_rfl
theorem sz206 : tsz Try.prog 206 = some 1 := by kernel_rfl
theorem ag206 : tag Try.prog 206 = some none := by kernel_rfl
theorem zc206 : tzc Try.prog 206 = some [(.int .i32 0)] := by kernel_rfl
theorem sr206 : tsrc Try.prog 206 = false := by kernel_rfl
theorem ni206 : tni Try.prog 206 = true := by kernel_rfl
theorem ta206 : tas Try.prog 206 = some (.int .i32 0) := by kernel_rfl
theorem sz207 : tsz Try.prog 207 = some 11 := by kernel_rfl
theorem ag207 : tag Try.prog 207 = some (some 11) := by kernel_rfl
theorem zc207 : tzc Try.prog 207 = some [(.int .u64 0), (.int .u64 0), (.int .u32 0), (.int .u8 0), (.int .u8 0), (.int .u8 0), (.int .u8 0), .nilFunc, (.ptr none), (.int .i32 0), (.int .i32 0)] := by kernel_rfl
theorem sr207 : tsrc Try.prog 207 = true := by kernel_rfl
theorem fd207_0 : tfd Try.prog 207 0 = some (0, 12) := by kernel_rfl
theorem fo207_0 : tfo Try.prog 207 0 = some 0 := by kernel_rfl
theorem fd207_1 : tfd Try.prog 207 1 = some (1, 12) := by kernel_rfl
theorem fo207_1 : tfo Try.prog 207 1 = some 1 := by kernel_rfl
theorem fd207_2 : tfd Try.prog 207 2 = some (2, 171) := by kernel_rfl
theorem fo207_2 : tfo Try.prog 207 2 = some 2 := by kernel_rfl
theorem fd207_3 : tfd Try.prog 207 3 = some (3, 201) := by kernel_rfl
theorem fo207_3 : tfo Try.prog 207 3 = some 3 := by kernel_rfl
theorem fd207_4 : tfd Try.prog 207 4 = some (4, 5) := by kernel_rfl
theorem fo207_4 : tfo Try.prog 207 4 = some 4 := by kernel_rfl
theorem fd207_5 : tfd Try.prog 207 5 = some (5, 5) := by kernel_rfl
theorem fo207_5 : tfo Try.prog 207 5 = some 5 := by kernel_rfl
theorem fd207_6 : tfd Try.prog 207 6 = some (6, 202) := by kernel_rfl
theorem fo207_6 : tfo Try.prog 207 6 = some 6 := by kernel_rfl
theorem fd207_7 : tfd Try.prog 207 7 = some (7, 203) := by kernel_rfl
theorem fo207_7 : tfo Try.prog 207 7 = some 7 := by kernel_rfl
theorem fd207_8 : tfd Try.prog 207 8 = some (8, 204) := by kernel_rfl
theorem fo207_8 : tfo Try.prog 207 8 = some 8 := by kernel_rfl
theorem fd207_9 : tfd Try.prog 207 9 = some (9, 205) := by kernel_rfl
theorem fo207_9 : tfo Try.prog 207 9 = some 9 := by kernel_rfl
theorem fd207_10 : tfd Try.prog 207 10 = some (10, 206) := by kernel_rfl
theorem fo207_10 : tfo Try.prog 207 10 = some 10 := by kernel_rfl
theorem pl207 : tpl Try.prog 207 = some [(0, 1), (1, 1), (2, 1), (3, 1), (4, 1), (5, 1), (6, 1), (7, 1), (8, 1), (9, 1), (10, 1)] := by kernel_rfl
theorem bd207 (ps : List (Nat × AV)) (K : AV → Prop) : aBuild Try.prog 207 ps K = aBld (tpl Try.prog 207) (tzc Try.prog 207) ps K := aBuild_eq (by rw [pl207]; rfl) ps K
theorem sz208 : tsz Try.prog 208 = some 11 := by kernel_rfl
theorem ag208 : tag Try.prog 208 = some (some 11) := by kernel_rfl
theorem zc208 : tzc Try.prog 208 = some [(.int .u64 0), (.int .u64 0), (.int .u32 0), (.int .u8 0), (.int .u8 0), (.int .u8 0), (.int .u8 0), .nilFunc, (.ptr none), (.int .i32 0), (.int .i32 0)] := by kernel_rfl
theorem sr208 : tsrc Try.prog 208 = true := by kernel_rfl
theorem fd208_0 : tfd Try.prog 208 0 = some (0, 12) := by kernel_rfl
theorem fo208_0 : tfo Try.prog 208 0 = some 0 := by kernel_rfl
theorem fd208_1 : tfd Try.prog 208 1 = some (1, 12) := by kernel_rfl
theorem fo208_1 : tfo Try.prog 208 1 = some 1 := by kernel_rfl
theorem fd208_2 : tfd Try.prog 208 2 = some (2, 171) := by kernel_rfl
theorem fo208_2 : tfo Try.prog 208 2 = some 2 := by kernel_rfl
theorem fd208_3 : tfd Try.prog 208 3 = some (3, 201) := by kernel_rfl
theorem fo208_3 : tfo Try.prog 208 3 = some 3 := by kernel_rfl
theorem fd208_4 : tfd Try.prog 208 4 = some (4, 5) := by kernel_rfl
theorem fo208_4 : tfo Try.prog 208 4 = some 4 := by kernel_rfl
theorem fd208_5 : tfd Try.prog 208 5 = some (5, 5) := by kernel_rfl
theorem fo208_5 : tfo Try.prog 208 5 = some 5 := by kernel_rfl
theorem fd208_6 : tfd Try.prog 208 6 = some (6, 202) := by kernel_rfl
theorem fo208_6 : tfo Try.prog 208 6 = some 6 := by kernel_rfl
theorem fd208_7 : tfd Try.prog 208 7 = some (7, 203) := by kernel_rfl
theorem fo208_7 : tfo Try.prog 208 7 = some 7 := by kernel_rfl
theorem fd208_8 : tfd Try.prog 208 8 = some (8, 204) := by kernel_rfl
theorem fo208_8 : tfo Try.prog 208 8 = some 8 := by kernel_rfl
theorem fd208_9 : tfd Try.prog 208 9 = some (9, 205) := by kernel_rfl
theorem fo208_9 : tfo Try.prog 208 9 = some 9 := by kernel_rfl
theorem fd208_10 : tfd Try.prog 208 10 = some (10, 206) := by kernel_rfl
theorem fo208_10 : tfo Try.prog 208 10 = some 10 := by kernel_rfl
theorem pl208 : tpl Try.prog 208 = some [(0, 1), (1, 1), (2, 1), (3, 1), (4, 1), (5, 1), (6, 1), (7, 1), (8, 1), (9, 1), (10, 1)] := by kernel_rfl
theorem bd208 (ps : List (Nat × AV)) (K : AV → Prop) : aBuild Try.prog 208 ps K = aBld (tpl Try.prog 208) (tzc Try.prog 208) ps K := aBuild_eq (by rw [pl208]; rfl) ps K
theorem ni208 : tni Try.prog 208 = true := by kernel_rfl
theorem ta208 : tas Try.prog 208 = some (.agg [(.int .u64 0), (.int .u64 0), (.int .u32 0), (.int .u8 0), (.int .u8 0), (.int .u8 0), (.int .u8 0), .nilFunc, (.ptr none), (.int .i32 0), (.int .i32 0)]) := by kernel_rfl
theorem sz209 : tsz Try.prog 209 = some 1 := by kernel_rfl
theorem ag209 : tag Try.prog 209 = some none := by kernel_rfl
theorem zc209 : tzc Try.prog 209 = some [(.ptr none)] := by kernel_rfl
theorem sr209 : tsrc Try.prog 209 = true := by kernel_rfl
theorem mu82 : tmkey Try.prog 82 = some true := by kernel_rfl
theorem mu89 : tmkey Try.prog 89 = some true := by kernel_rfl
theorem mu127 : tmkey Try.prog 127 = some true := by kernel_rfl
theorem mq82 : mks Try.prog 82 = none := by kernel_rfl
theorem mq89 : mks Try.prog 89 = none := by kernel_rfl
theorem mq127 : mks Try.prog 127 = none := by kernel_rfl
theorem mq134 : mks Try.prog 134 = some ([(0, .int), (1, .int)], (.agg [(.int .i64 0), (.int .i64 0), (.int .i64 0), (.int .i64 0), (.int .i64 0), (.int .i64 0), (.int .i64 0), (.bool false)])) := by kernel_rfl
theorem ar197 : tarr Try.prog 197 = some (0, 1) := by kernel_rfl
theorem ba197 (ps : List (Nat × AV)) (K : AV → Prop) : aBuild Try.prog 197 ps K = aBldA (tarr Try.prog 197) (tzc Try.prog 197) ps K := aBuildA_eq (by rw [ar197]; rfl) ps K
theorem cv2_2 : tcv Try.prog 2 2 = some (some .i64) := by kernel_rfl
theorem cv2_3 : tcv Try.prog 2 3 = some (some .i64) := by kernel_rfl
theorem cv2_5 : tcv Try.prog 2 5 = some (some .u8) := by kernel_rfl
theorem cv2_6 : tcv Try.prog 2 6 = some (some .u8) := by kernel_rfl
theorem cv2_12 : tcv Try.prog 2 12 = some (some .u64) := by kernel_rfl
theorem cv2_21 : tcv Try.prog 2 21 = some (some .i32) := by kernel_rfl
theorem cv2_26 : tcv Try.prog 2 26 = some (some .i64) := by kernel_rfl
theorem cv2_117 : tcv Try.prog 2 117 = some (some .u64) := by kernel_rfl
theorem cv2_118 : tcv Try.prog 2 118 = some (some .u64) := by kernel_rfl
theorem cv2_163 : tcv Try.prog 2 163 = some (some .i64) := by kernel_rfl
theorem cv2_171 : tcv Try.prog 2 171 = some (some .u32) := by kernel_rfl
theorem cv2_173 : tcv Try.prog 2 173 = some (some .u64) := by kernel_rfl
theorem cv2_182 : tcv Try.prog 2 182 = some (some .u64) := by kernel_rfl
theorem cv2_201 : tcv Try.prog 2 201 = some (some .u8) := by kernel_rfl
theorem cv2_202 : tcv Try.prog 2 202 = some (some .u8) := by kernel_rfl
theorem cv2_205 : tcv Try.prog 2 205 = some (some .i32) := by kernel_rfl
theorem cv2_206 : tcv Try.prog 2 206 = some (some .i32) := by kernel_rfl
theorem cv3_2 : tcv Try.prog 3 2 = some (some .i64) := by kernel_rfl
theorem cv3_3 : tcv Try.prog 3 3 = some (some .i64) := by kernel_rfl
theorem cv3_5 : tcv Try.prog 3 5 = some (some .u8) := by kernel_rfl
theorem cv3_6 : tcv Try.prog 3 6 = some (some .u8) := by kernel_rfl
theorem cv3_12 : tcv Try.prog 3 12 = some (some .u64) := by kernel_rfl
theorem cv3_21 : tcv Try.prog 3 21 = some (some .i32) := by kernel_rfl
theorem cv3_26 : tcv Try.prog 3 26 = some (some .i64) := by kernel_rfl
theorem cv3_117 : tcv Try.prog 3 117 = some (some .u64) := by kernel_rfl
theorem cv3_118 : tcv Try.prog 3 118 = some (some .u64) := by kernel_rfl
theorem cv3_163 : tcv Try.prog 3 163 = some (some .i64) := by kernel_rfl
theorem cv3_171 : tcv Try.prog 3 171 = some (some .u32) := by kernel_rfl
theorem cv3_173 : tcv Try.prog 3 173 = some (some .u64) := by kernel_rfl
theorem cv3_182 : tcv Try.prog 3 182 = some (some .u64) := by kernel_rfl
theorem cv3_201 : tcv Try.prog 3 201 = some (some .u8) := by kernel_rfl
theorem cv3_202 : tcv Try.prog 3 202 = some (some .u8) := by kernel_rfl
theorem cv3_205 : tcv Try.prog 3 205 = some (some .i32) := by kernel_rfl
theorem cv3_206 : tcv Try.prog 3 206 = some (some .i32) := by kernel_rfl
theorem cv5_2 : tcv Try.prog 5 2 = some (some .i64) := by kernel_rfl
theorem cv5_3 : tcv Try.prog 5 3 = some (some .i64) := by kernel_rfl
theorem cv5_5 : tcv Try.prog 5 5 = some (some .u8) := by kernel_rfl
theorem cv5_6 : tcv Try.prog 5 6 = some (some .u8) := by kernel_rfl
theorem cv5_12 : tcv Try.prog 5 12 = some (some .u64) := by kernel_rfl
theorem cv5_21 : tcv Try.prog 5 21 = some (some .i32) := by kernel_rfl
theorem cv5_26 : tcv Try.prog 5 26 = some (some .i64) := by kernel_rfl
theorem cv5_117 : tcv Try.prog 5 117 = some (some .u64) := by kernel_rfl
theorem cv5_118 : tcv Try.prog 5 118 = some (some .u64) := by kernel_rfl
theorem cv5_163 : tcv Try.prog 5 163 = some (some .i64) := by kernel_rfl
theorem cv5_171 : tcv Try.prog 5 171 = some (some .u32) := by kernel_rfl
theorem cv5_173 : tcv Try.prog 5 173 = some (some .u64) := by kernel_rfl
theorem cv5_182 : tcv Try.prog 5 182 = some (some .u64) := by kernel_rfl
theorem cv5_201 : tcv Try.prog 5 201 = some (some .u8) := by kernel_rfl
theorem cv5_202 : tcv Try.prog 5 202 = some (some .u8) := by kernel_rfl
theorem cv5_205 : tcv Try.prog 5 205 = some (some .i32) := by kernel_rfl
theorem cv5_206 : tcv Try.prog 5 206 = some (some .i32) := by kernel_rfl
theorem cv6_2 : tcv Try.prog 6 2 = some (some .i64) := by kernel_rfl
theorem cv6_3 : tcv Try.prog 6 3 = some (some .i64) := by kernel_rfl
theorem cv6_5 : tcv Try.prog 6 5 = some (some .u8) := by kernel_rfl
theorem cv6_6 : tcv Try.prog 6 6 = some (some .u8) := by kernel_rfl
theorem cv6_12 : tcv Try.prog 6 12 = some (some .u64) := by kernel_rfl
theorem cv6_21 : tcv Try.prog 6 21 = some (some .i32) := by kernel_rfl
theorem cv6_26 : tcv Try.prog 6 26 = some (some .i64) := by kernel_rfl
theorem cv6_117 : tcv Try.prog 6 117 = some (some .u64) := by kernel_rfl
theorem cv6_118 : tcv Try.prog 6 118 = some (some .u64) := by kernel_rfl
theorem cv6_163 : tcv Try.prog 6 163 = some (some .i64) := by kernel_rfl
theorem cv6_171 : tcv Try.prog 6 171 = some (some .u32) := by kernel_rfl
theorem cv6_173 : tcv Try.prog 6 173 = some (some .u64) := by kernel_rfl
theorem cv6_182 : tcv Try.prog 6 182 = some (some .u64) := by kernel_rfl
theorem cv6_201 : tcv Try.prog 6 201 = some (some .u8) := by kernel_rfl
theorem cv6_202 : tcv Try.prog 6 202 = some (some .u8) := by kernel_rfl
theorem cv6_205 : tcv Try.prog 6 205 = some (some .i32) := by kernel_rfl
theorem cv6_206 : tcv Try.prog 6 206 = some (some .i32) := by kernel_rfl
theorem cv9_9 : tcv Try.prog 9 9 = some none := by kernel_rfl
theorem cv9_10 : tcv Try.prog 9 10 = some none := by kernel_rfl
theorem cv9_11 : tcv Try.prog 9 11 = some none := by kernel_rfl
theorem cv10_9 : tcv Try.prog 10 9 = some none := by kernel_rfl
theorem cv10_10 : tcv Try.prog 10 10 = some none := by kernel_rfl
theorem cv10_11 : tcv Try.prog 10 11 = some none := by kernel_rfl
theorem cv11_9 : tcv Try.prog 11 9 = some none := by kernel_rfl
theorem cv11_10 : tcv Try.prog 11 10 = some none := by kernel_rfl
theorem cv11_11 : tcv Try.prog 11 11 = some none := by kernel_rfl
theorem cv12_2 : tcv Try.prog 12 2 = some (some .i64) := by kernel_rfl
theorem cv12_3 : tcv Try.prog 12 3 = some (some .i64) := by kernel_rfl
theorem cv12_5 : tcv Try.prog 12 5 = some (some .u8) := by kernel_rfl
theorem cv12_6 : tcv Try.prog 12 6 = some (some .u8) := by kernel_rfl
theorem cv12_12 : tcv Try.prog 12 12 = some (some .u64) := by kernel_rfl
theorem cv12_21 : tcv Try.prog 12 21 = some (some .i32) := by kernel_rfl
theorem cv12_26 : tcv Try.prog 12 26 = some (some .i64) := by kernel_rfl
theorem cv12_117 : tcv Try.prog 12 117 = some (some .u64) := by kernel_rfl
theorem cv12_118 : tcv Try.prog 12 118 = some (some .u64) := by kernel_rfl
theorem cv12_163 : tcv Try.prog 12 163 = some (some .i64) := by kernel_rfl
theorem cv12_171 : tcv Try.prog 12 171 = some (some .u32) := by kernel_rfl
theorem cv12_173 : tcv Try.prog 12 173 = some (some .u64) := by kernel_rfl
theorem cv12_182 : tcv Try.prog 12 182 = some (some .u64) := by kernel_rfl
theorem cv12_201 : tcv Try.prog 12 201 = some (some .u8) := by kernel_rfl
theorem cv12_202 : tcv Try.prog 12 202 = some (some .u8) := by kernel_rfl
theorem cv12_205 : tcv Try.prog 12 205 = some (some .i32) := by kernel_rfl
theorem cv12_206 : tcv Try.prog 12 206 = some (some .i32) := by kernel_rfl
theorem cv21_2 : tcv Try.prog 21 2 = some (some .i64) := by kernel_rfl
theorem cv21_3 : tcv Try.prog 21 3 = some (some .i64) := by kernel_rfl
theorem cv21_5 : tcv Try.prog 21 5 = some (some .u8) := by kernel_rfl
theorem cv21_6 : tcv Try.prog 21 6 = some (some .u8) := by kernel_rfl
theorem cv21_12 : tcv Try.prog 21 12 = some (some .u64) := by kernel_rfl
theorem cv21_21 : tcv Try.prog 21 21 = some (some .i32) := by kernel_rfl
theorem cv21_26 : tcv Try.prog 21 26 = some (some .i64) := by kernel_rfl
theorem cv21_117 : tcv Try.prog 21 117 = some (some .u64) := by kernel_rfl
theorem cv21_118 : tcv Try.prog 21 118 = some (some .u64) := by kernel_rfl
theorem cv21_163 : tcv Try.prog 21 163 = some (some .i64) := by kernel_rfl
theorem cv21_171 : tcv Try.prog 21 171 = some (some .u32) := by kernel_rfl
theorem cv21_173 : tcv Try.prog 21 173 = some (some .u64) := by kernel_rfl
theorem cv21_182 : tcv Try.prog 21 182 = some (some .u64) := by kernel_rfl
theorem cv21_201 : tcv Try.prog 21 201 = some (some .u8) := by kernel_rfl
theorem cv21_202 : tcv Try.prog 21 202 = some (some .u8) := by kernel_rfl
theorem cv21_205 : tcv Try.prog 21 205 = some (some .i32) := by kernel_rfl
theorem cv21_206 : tcv Try.prog 21 206 = some (some .i32) := by kernel_rfl
theorem cv26_2 : tcv Try.prog 26 2 = some (some .i64) := by kernel_rfl
theorem cv26_3 : tcv Try.prog 26 3 = some (some .i64) := by kernel_rfl
theorem cv26_5 : tcv Try.prog 26 5 = some (some .u8) := by kernel_rfl
theorem cv26_6 : tcv Try.prog 26 6 = some (some .u8) := by kernel_rfl
theorem cv26_12 : tcv Try.prog 26 12 = some (some .u64) := by kernel_rfl
theorem cv26_21 : tcv Try.prog 26 21 = some (some .i32) := by kernel_rfl
theorem cv26_26 : tcv Try.prog 26 26 = some (some .i64) := by kernel_rfl
theorem cv26_117 : tcv Try.prog 26 117 = some (some .u64) := by kernel_rfl
theorem cv26_118 : tcv Try.prog 26 118 = some (some .u64) := by kernel_rfl
theorem cv26_163 : tcv Try.prog 26 163 = some (some .i64) := by kernel_rfl
theorem cv26_171 : tcv Try.prog 26 171 = some (some .u32) := by kernel_rfl
theorem cv26_173 : tcv Try.prog 26 173 = some (some .u64) := by kernel_rfl
theorem cv26_182 : tcv Try.prog 26 182 = some (some .u64) := by kernel_rfl
theorem cv26_201 : tcv Try.prog 26 201 = some (some .u8) := by kernel_rfl
theorem cv26_202 : tcv Try.prog 26 202 = some (some .u8) := by kernel_rfl
theorem cv26_205 : tcv Try.prog 26 205 = some (some .i32) := by kernel_rfl
theorem cv26_206 : tcv Try.prog 26 206 = some (some .i32) := by kernel_rfl
theorem cv117_2 : tcv Try.prog 117 2 = some (some .i64) := by kernel_rfl
theorem cv117_3 : tcv Try.prog 117 3 = some (some .i64) := by kernel_rfl
theorem cv117_5 : tcv Try.prog 117 5 = some (some .u8) := by kernel_rfl
theorem cv117_6 : tcv Try.prog 117 6 = some (some .u8) := by kernel_rfl
theorem cv117_12 : tcv Try.prog 117 12 = some (some .u64) := by kernel_rfl
theorem cv117_21 : tcv Try.prog 117 21 = some (some .i32) := by kernel_rfl
theorem cv117_26 : tcv Try.prog 117 26 = some (some .i64) := by kernel_rfl
theorem cv117_117 : tcv Try.prog 117 117 = some (some .u64) := by kernel_rfl
theorem cv117_118 : tcv Try.prog 117 118 = some (some .u64) := by kernel_rfl
theorem cv117_163 : tcv Try.prog 117 163 = some (some .i64) := by kernel_rfl
theorem cv117_171 : tcv Try.prog 117 171 = some (some .u32) := by kernel_rfl
theorem cv117_173 : tcv Try.prog 117 173 = some (some .u64) := by kernel_rfl
theorem cv117_182 : tcv Try.prog 117 182 = some (some .u64) := by kernel_rfl
theorem cv117_201 : tcv Try.prog 117 201 = some (some .u8) := by kernel_rfl
theorem cv117_202 : tcv Try.prog 117 202 = some (some .u8) := by kernel_rfl
theorem cv117_205 : tcv Try.prog 117 205 = some (some .i32) := by kernel_rfl
theorem cv117_206 : tcv Try.prog 117 206 = some (some .i32) := by kernel_rfl
theorem cv118_2 : tcv Try.prog 118 2 = some (some .i64) := by kernel_rfl
theorem cv118_3 : tcv Try.prog 118 3 = some (some .i64) := by kernel_rfl
theorem cv118_5 : tcv Try.prog 118 5 = some (some .u8) := by kernel_rfl
theorem cv118_6 : tcv Try.prog 118 6 = some (some .u8) := by kernel_rfl
theorem cv118_12 : tcv Try.prog 118 12 = some (some .u64) := by kernel_rfl
theorem cv118_21 : tcv Try.prog 118 21 = some (some .i32) := by kernel_rfl
theorem cv118_26 : tcv Try.prog 118 26 = some (some .i64) := by kernel_rfl
theorem cv118_117 : tcv Try.prog 118 117 = some (some .u64) := by kernel_rfl
theorem cv118_118 : tcv Try.prog 118 118 = some (some .u64) := by kernel_rfl
theorem cv118_163 : tcv Try.prog 118 163 = some (some .i64) := by kernel_rfl
theorem cv118_171 : tcv Try.prog 118 171 = some (some .u32) := by kernel_rfl
theorem cv118_173 : tcv Try.prog 118 173 = some (some .u64) := by kernel_rfl
theorem cv118_182 : tcv Try.prog 118 182 = some (some .u64) := by kernel_rfl
theorem cv118_201 : tcv Try.prog 118 201 = some (some .u8) := by kernel_rfl
theorem cv118_202 : tcv Try.prog 118 202 = some (some .u8) := by kernel_rfl
theorem cv118_205 : tcv Try.prog 118 205 = some (some .i32) := by kernel_rfl
theorem cv118_206 : tcv Try.prog 118 206 = some (some .i32) := by kernel_rfl
theorem cv163_2 : tcv Try.prog 163 2 = some (some .i64) := by kernel_rfl
theorem cv163_3 : tcv Try.prog 163 3 = some (some .i64) := by kernel_rfl
theorem cv163_5 : tcv Try.prog 163 5 = some (some .u8) := by kernel_rfl
theorem cv163_6 : tcv Try.prog 163 6 = some (some .u8) := by kernel_rfl
theorem cv163_12 : tcv Try.prog 163 12 = some (some .u64) := by kernel_rfl
theorem cv163_21 : tcv Try.prog 163 21 = some (some .i32) := by kernel_rfl
theorem cv163_26 : tcv Try.prog 163 26 = some (some .i64) := by kernel_rfl
theorem cv163_117 : tcv Try.prog 163 117 = some (some .u64) := by kernel_rfl
theorem cv163_118 : tcv Try.prog 163 118 = some (some .u64) := by kernel_rfl
theorem cv163_163 : tcv Try.prog 163 163 = some (some .i64) := by kernel_rfl
theorem cv163_171 : tcv Try.prog 163 171 = some (some .u32) := by kernel_rfl
theorem cv163_173 : tcv Try.prog 163 173 = some (some .u64) := by kernel_rfl
theorem cv163_182 : tcv Try.prog 163 182 = some (some .u64) := by kernel_rfl
theorem cv163_201 : tcv Try.prog 163 201 = some (some .u8) := by kernel_rfl
theorem cv163_202 : tcv Try.prog 163 202 = some (some .u8) := by kernel_rfl
theorem cv163_205 : tcv Try.prog 163 205 = some (some .i32) := by kernel_rfl
theorem cv163_206 : tcv Try.prog 163 206 = some (some .i32) := by kernel_rfl
theorem cv171_2 : tcv Try.prog 171 2 = some (some .i64) := by kernel_rfl
theorem cv171_3 : tcv Try.prog 171 3 = some (some .i64) := by kernel_rfl
theorem cv171_5 : tcv Try.prog 171 5 = some (some .u8) := by kernel_rfl
theorem cv171_6 : tcv Try.prog 171 6 = some (some .u8) := by kernel_rfl
theorem cv171_12 : tcv Try.prog 171 12 = some (some .u64) := by kernel_rfl
theorem cv171_21 : tcv Try.prog 171 21 = some (some .i32) := by kernel_rfl
theorem cv171_26 : tcv Try.prog 171 26 = some (some .i64) := by kernel_rfl
theorem cv171_117 : tcv Try.prog 171 117 = some (some .u64) := by kernel_rfl
theorem cv171_118 : tcv Try.prog 171 118 = some (some .u64) := by kernel_rfl
theorem cv171_163 : tcv Try.prog 171 163 = some (some .i64) := by kernel_rfl
theorem cv171_171 : tcv Try.prog 171 171 = some (some .u32) := by kernel_rfl
theorem cv171_173 : tcv Try.prog 171 173 = some (some .u64) := by kernel_rfl
theorem cv171_182 : tcv Try.prog 171 182 = some (some .u64) := by kernel_rfl
theorem cv171_201 : tcv Try.prog 171 201 = some (some .u8) := by kernel_rfl
theorem cv171_202 : tcv Try.prog 171 202 = some (some .u8) := by kernel_rfl
theorem cv171_205 : tcv Try.prog 171 205 = some (some .i32) := by kernel_rfl
theorem cv171_206 : tcv Try.prog 171 206 = some (some .i32) := by kernel_rfl
theorem cv173_2 : tcv Try.prog 173 2 = some (some .i64) := by kernel_rfl
theorem cv173_3 : tcv Try.prog 173 3 = some (some .i64) := by kernel_rfl
theorem cv173_5 : tcv Try.prog 173 5 = some (some .u8) := by kernel_rfl
theorem cv173_6 : tcv Try.prog 173 6 = some (some .u8) := by kernel_rfl
theorem cv173_12 : tcv Try.prog 173 12 = some (some .u64) := by kernel_rfl
theorem cv173_21 : tcv Try.prog 173 21 = some (some .i32) := by kernel_rfl
theorem cv173_26 : tcv Try.prog 173 26 = some (some .i64) := by kernel_rfl
theorem cv173_117 : tcv Try.prog 173 117 = some (some .u64) := by kernel_rfl
theorem cv173_118 : tcv Try.prog 173 118 = some (some .u64) := by kernel_rfl
theorem cv173_163 : tcv Try.prog 173 163 = some (some .i64) := by kernel_rfl
theorem cv173_171 : tcv Try.prog 173 171 = some (some .u32) := by kernel_rfl
theorem cv173_173 : tcv Try.prog 173 173 = some (some .u64) := by kernel_rfl
theorem cv173_182 : tcv Try.prog 173 182 = some (some .u64) := by kernel_rfl
theorem cv173_201 : tcv Try.prog 173 201 = some (some .u8) := by kernel_rfl
theorem cv173_202 : tcv Try.prog 173 202 = some (some .u8) := by kernel_rfl
theorem cv173_205 : tcv Try.prog 173 205 = some (some .i32) := by kernel_rfl
theorem cv173_206 : tcv Try.prog 173 206 = some (some .i32) := by kernel_rfl
theorem cv182_2 : tcv Try.prog 182 2 = some (some .i64) := by kernel_rfl
theorem cv182_3 : tcv Try.prog 182 3 = some (some .i64) := by kernel_rfl
theorem cv182_5 : tcv Try.prog 182 5 = some (some .u8) := by kernel_rfl
theorem cv182_6 : tcv Try.prog 182 6 = some (some .u8) := by kernel_rfl
theorem cv182_12 : tcv Try.prog 182 12 = some (some .u64) := by kernel_rfl
theorem cv182_21 : tcv Try.prog 182 21 = some (some .i32) := by kernel_rfl
theorem cv182_26 : tcv Try.prog 182 26 = some (some .i64) := by kernel_rfl
theorem cv182_117 : tcv Try.prog 182 117 = some (some .u64) := by kernel_rfl
theorem cv182_118 : tcv Try.prog 182 118 = some (some .u64) := by kernel_rfl
theorem cv182_163 : tcv Try.prog 182 163 = some (some .i64) := by kernel_rfl
theorem cv182_171 : tcv Try.prog 182 171 = some (some .u32) := by kernel_rfl
theorem cv182_173 : tcv Try.prog 182 173 = some (some .u64) := by kernel_rfl
theorem cv182_182 : tcv Try.prog 182 182 = some (some .u64) := by kernel_rfl
theorem cv182_201 : tcv Try.prog 182 201 = some (some .u8) := by kernel_rfl
theorem cv182_202 : tcv Try.prog 182 202 = some (some .u8) := by kernel_rfl
theorem cv182_205 : tcv Try.prog 182 205 = some (some .i32) := by kernel_rfl
theorem cv182_206 : tcv Try.prog 182 206 = some (some .i32) := by kernel_rfl
theorem cv201_2 : tcv Try.prog 201 2 = some (some .i64) := by kernel_rfl
theorem cv201_3 : tcv Try.prog 201 3 = some (some .i64) := by kernel_rfl
theorem cv201_5 : tcv Try.prog 201 5 = some (some .u8) := by kernel_rfl
theorem cv201_6 : tcv Try.prog 201 6 = some (some .u8) := by kernel_rfl
theorem cv201_12 : tcv Try.prog 201 12 = some (some .u64) := by kernel_rfl
theorem cv201_21 : tcv Try.prog 201 21 = some (some .i32) := by kernel_rfl
theorem cv201_26 : tcv Try.prog 201 26 = some (some .i64) := by kernel_rfl
theorem cv201_117 : tcv Try.prog 201 117 = some (some .u64) := by kernel_rfl
theorem cv201_118 : tcv Try.prog 201 118 = some (some .u64) := by kernel_rfl
theorem cv201_163 : tcv Try.prog 201 163 = some (some .i64) := by kernel_rfl
theorem cv201_171 : tcv Try.prog 201 171 = some (some .u32) := by kernel_rfl
theorem cv201_173 : tcv Try.prog 201 173 = some (some .u64) := by kernel_rfl
theorem cv201_182 : tcv Try.prog 201 182 = some (some .u64) := by kernel_rfl
theorem cv201_201 : tcv Try.prog 201 201 = some (some .u8) := by kernel_rfl
theorem cv201_202 : tcv Try.prog 201 202 = some (some .u8) := by kernel_rfl
theorem cv201_205 : tcv Try.prog 201 205 = some (some .i32) := by kernel_rfl
theorem cv201_206 : tcv Try.prog 201 206 = some (some .i32) := by kernel_rfl
theorem cv202_2 : tcv Try.prog 202 2 = some (some .i64) := by kernel_rfl
theorem cv202_3 : tcv Try.prog 202 3 = some (some .i64) := by kernel_rfl
theorem cv202_5 : tcv Try.prog 202 5 = some (some .u8) := by kernel_rfl
theorem cv202_6 : tcv Try.prog 202 6 = some (some .u8) := by kernel_rfl
theorem cv202_12 : tcv Try.prog 202 12 = some (some .u64) := by kernel_rfl
theorem cv202_21 : tcv Try.prog 202 21 = some (some .i32) := by kernel_rfl
theorem cv202_26 : tcv Try.prog 202 26 = some (some .i64) := by kernel_rfl
theorem cv202_117 : tcv Try.prog 202 117 = some (some .u64) := by kernel_rfl
theorem cv202_118 : tcv Try.prog 202 118 = some (some .u64) := by kernel_rfl
theorem cv202_163 : tcv Try.prog 202 163 = some (some .i64) := by kernel_rfl
theorem cv202_171 : tcv Try.prog 202 171 = some (some .u32) := by kernel_rfl
theorem cv202_173 : tcv Try.prog 202 173 = some (some .u64) := by kernel_rfl
theorem cv202_182 : tcv Try.prog 202 182 = some (some .u64) := by kernel_rfl
theorem cv202_201 : tcv Try.prog 202 201 = some (some .u8) := by kernel_rfl
theorem cv202_202 : tcv Try.prog 202 202 = some (some .u8) := by kernel_rfl
theorem cv202_205 : tcv Try.prog 202 205 = some (some .i32) := by kernel_rfl
theorem cv202_206 : tcv Try.prog 202 206 = some (some .i32) := by kernel_rfl
theorem cv205_2 : tcv Try.prog 205 2 = some (some .i64) := by kernel_rfl
theorem cv205_3 : tcv Try.prog 205 3 = some (some .i64) := by kernel_rfl
theorem cv205_5 : tcv Try.prog 205 5 = some (some .u8) := by kernel_rfl
theorem cv205_6 : tcv Try.prog 205 6 = some (some .u8) := by kernel_rfl
theorem cv205_12 : tcv Try.prog 205 12 = some (some .u64) := by kernel_rfl
theorem cv205_21 : tcv Try.prog 205 21 = some (some .i32) := by kernel_rfl
theorem cv205_26 : tcv Try.prog 205 26 = some (some .i64) := by kernel_rfl
theorem cv205_117 : tcv Try.prog 205 117 = some (some .u64) := by kernel_rfl
theorem cv205_118 : tcv Try.prog 205 118 = some (some .u64) := by kernel_rfl
theorem cv205_163 : tcv Try.prog 205 163 = some (some .i64) := by kernel_rfl
theorem cv205_171 : tcv Try.prog 205 171 = some (some .u32) := by kernel_rfl
theorem cv205_173 : tcv Try.prog 205 173 = some (some .u64) := by kernel_rfl
theorem cv205_182 : tcv Try.prog 205 182 = some (some .u64) := by kernel_rfl
theorem cv205_201 : tcv Try.prog 205 201 = some (some .u8) := by kernel_rfl
theorem cv205_202 : tcv Try.prog 205 202 = some (some .u8) := by kernel_rfl
theorem cv205_205 : tcv Try.prog 205 205 = some (some .i32) := by kernel_rfl
theorem cv205_206 : tcv Try.prog 205 206 = some (some .i32) := by kernel_rfl
theorem cv206_2 : tcv Try.prog 206 2 = some (some .i64) := by kernel_rfl
theorem cv206_3 : tcv Try.prog 206 3 = some (some .i64) := by kernel_rfl
theorem cv206_5 : tcv Try.prog 206 5 = some (some .u8) := by kernel_rfl
theorem cv206_6 : tcv Try.prog 206 6 = some (some .u8) := by kernel_rfl
theorem cv206_12 : tcv Try.prog 206 12 = some (some .u64) := by kernel_rfl
theorem cv206_21 : tcv Try.prog 206 21 = some (some .i32) := by kernel_rfl
theorem cv206_26 : tcv Try.prog 206 26 = some (some .i64) := by kernel_rfl
theorem cv206_117 : tcv Try.prog 206 117 = some (some .u64) := by kernel_rfl
theorem cv206_118 : tcv Try.prog 206 118 = some (some .u64) := by kernel_rfl
theorem cv206_163 : tcv Try.prog 206 163 = some (some .i64) := by kernel_rfl
theorem cv206_171 : tcv Try.prog 206 171 = some (some .u32) := by kernel_rfl
theorem cv206_173 : tcv Try.prog 206 173 = some (some .u64) := by kernel_rfl
theorem cv206_182 : tcv Try.prog 206 182 = some (some .u64) := by kernel_rfl
theorem cv206_201 : tcv Try.prog 206 201 = some (some .u8) := by kernel_rfl
theorem cv206_202 : tcv Try.prog 206 202 = some (some .u8) := by kernel_rfl
theorem cv206_205 : tcv Try.prog 206 205 = some (some .i32) := by kernel_rfl
theorem cv206_206 : tcv Try.prog 206 206 = some (some .i32) := by kernel_rfl
attribute [go_sem] sz1 ag1 zc1 sr1 sz2 ag2 zc2 sr2 sz3 ag3 zc3 sr3 sz4 ag4 zc4 sr4 bo4 sz5 ag5 zc5 sr5 sz6 ag6 zc6 sr6 ni6 ta6 sz7 ag7 zc7 sr7 fd7_0 fo7_0 fd7_1 fo7_1 fd7_2 fo7_2 fd7_3 fo7_3 pl7 bd7 sz8 ag8 zc8 sr8 fd8_0 fo8_0 fd8_1 fo8_1 fd8_2 fo8_2 fd8_3 fo8_3 pl8 bd8 ni8 ta8 sz9 ag9 zc9 sr9 cu9 ln9 sz10 ag10 zc10 sr10 ni10 ta10 cu10 ln10 sz11 ag11 zc11 sr11 ni11 ta11 cu11 ln11 sz12 ag12 zc12 sr12 sz13 ag13 zc13 sr13 fd13_0 fo13_0 fd13_1 fo13_1 pl13 bd13 sz14 ag14 zc14 sr14 fd14_0 fo14_0 fd14_1 fo14_1 pl14 bd14 ni14 ta14 sz15 ag15 zc15 sr15 ni15 ta15 sz16 ag16 zc16 sr16 ni16 ta16 sz17 ag17 zc17 sr17 ni17 ta17 sz18 ag18 zc18 sr18 fd18_0 fo18_0 pl18 bd18 sz19 ag19 zc19 sr19 fd19_0 fo19_0 pl19 bd19 ni19 ta19 sz20 ag20 zc20 sr20 if20 sz21 ag21 zc21 sr21 sz22 ag22 zc22 sr22 el22 cu22 ap22 bs22 ms22 mm22 mc22 mb22 ma22 ae22_22 ln22 sz23 ag23 zc23 sr23 el23 cu23 ap23 bs23 ms23 mm23 mc23 mb23 ma23 ae23_23 ln23 sz24 ag24 zc24 sr24 sz25 ag25 zc25 sr25 sz26 ag26 zc26 sr26 ni26 ta26 sz28 ag28 zc28 sr28 sz29 ag29 zc29 sr29 el29 cu29 ap29 bs29 ms29 mm29 mc29 mb29 ma29 ae29_29 ln29 sz31 ag31 zc31 sr31 sz32 ag32 zc32 sr32 sz33 ag33 zc33 sr33 sz34 ag34 zc34 sr34 el34 cu34 ap34 bs34 ms34 mm34 mc34 mb34 ma34 ae34_34 ln34 sz36 ag36 zc36 sr36 sz37 ag37 zc37 sr37 sz38 ag38 zc38 sr38 sz39 ag39 zc39 sr39 fd39_0 fo39_0 fd39_1 fo39_1 fd39_2 fo39_2 fd39_3 fo39_3 fd39_4 fo39_4 fd39_5 fo39_5 fd39_6 fo39_6 fd39_7 fo39_7 pl39 bd39 sz40 ag40 zc40 sr40 fd40_0 fo40_0 fd40_1 fo40_1 fd40_2 fo40_2 fd40_3 fo40_3 fd40_4 fo40_4 fd40_5 fo40_5 fd40_6 fo40_6 fd40_7 fo40_7 pl40 bd40 es40 ni40 ta40 sz41 ag41 zc41 sr41 fd41_0 fo41_0 fd41_1 fo41_1 fd41_2 fo41_2 fd41_3 fo41_3 fd41_4 fo41_4 pl41 bd41 sz42 ag42 zc42 sr42 fd42_0 fo42_0 fd42_1 fo42_1 fd42_2 fo42_2 fd42_3 fo42_3 fd42_4 fo42_4 pl42 bd42 es42 ni42 ta42 sz44 ag44 zc44 sr44 sz45 ag45 zc45 sr45 sz46 ag46 zc46 sr46 sz47 ag47 zc47 sr47 fd47_0 fo47_0 fd47_1 fo47_1 fd47_2 fo47_2 pl47 bd47 sz48 ag48 zc48 sr48 fd48_0 fo48_0 fd48_1 fo48_1 fd48_2 fo48_2 pl48 bd48 es48 ni48 ta48 sz50 ag50 zc50 sr50 sz51 ag51 zc51 sr51 sz52 ag52 zc52 sr52 el52 cu52 ap52 bs52 ms52 mm52 mc52 mb52 ma52 ae52_52 ln52 sz53 ag53 zc53 sr53 fd53_0 fo53_0 fd53_1 fo53_1 fd53_2 fo53_2 pl53 bd53 sz54 ag54 zc54 sr54 fd54_0 fo54_0 fd54_1 fo54_1 fd54_2 fo54_2 pl54 bd54 ni54 ta54 sz55 ag55 zc55 sr55 el55 cu55 ap55 bs55 ms55 mm55 mc55 mb55 ma55 ae55_55 ln55 sz56 ag56 zc56 sr56 sz57 ag57 zc57 sr57 sz59 ag59 zc59 sr59 sz61 ag61 zc61 sr61 sz63 ag63 zc63 sr63 sz64 ag64 zc64 sr64 sz65 ag65 zc65 sr65 sz66 ag66 zc66 sr66 sz67 ag67 zc67 sr67 sz68 ag68 zc68 sr68 sz69 ag69 zc69 sr69 sz70 ag70 zc70 sr70 sz71 ag71 zc71 sr71 fd71_0 fo71_0 fd71_1 fo71_1 fd71_2 fo71_2 pl71 bd71 sz72 ag72 zc72 sr72 fd72_0 fo72_0 fd72_1 fo72_1 fd72_2 fo72_2 pl72 bd72 ni72 ta72 sz74 ag74 zc74 sr74 sz75 ag75 zc75 sr75 sz76 ag76 zc76 sr76 fd76_0 fo76_0 fd76_1 fo76_1 pl76 bd76 sz77 ag77 zc77 sr77 fd77_0 fo77_0 fd77_1 fo77_1 pl77 bd77 es77 ni77 ta77 sz78 ag78 zc78 sr78 sz79 ag79 zc79 sr79 sz81 ag81 zc81 sr81 sz82 ag82 zc82 sr82 ln82 mk82 sz83 ag83 zc83 sr83 sz84 ag84 zc84 sr84 sz85 ag85 zc85 sr85 sz86 ag86 zc86 sr86 sz87 ag87 zc87 sr87 sz88 ag88 zc88 sr88 sz89 ag89 zc89 sr89 ln89 mk89 sz90 ag90 zc90 sr90 sz91 ag91 zc91 sr91 sz92 ag92 zc92 sr92 sz93 ag93 zc93 sr93 sz94 ag94 zc94 sr94 sz95 ag95 zc95 sr95 sz96 ag96 zc96 sr96 sz97 ag97 zc97 sr97 sz98 ag98 zc98 sr98 sz99 ag99 zc99 sr99 sz100 ag100 zc100 sr100 sz101 ag101 zc101 sr101 sz102 ag102 zc102 sr102 sz103 ag103 zc103 sr103 sz104 ag104 zc104 sr104 sz105 ag105 zc105 sr105 sz106 ag106 zc106 sr106 sz107 ag107 zc107 sr107 sz108 ag108 zc108 sr108 sz109 ag109 zc109 sr109 ni109 ta109 sz110 ag110 zc110 sr110 sz111 ag111 zc111 sr111 sz112 ag112 zc112 sr112 sz113 ag113 zc113 sr113 sz114 ag114 zc114 sr114 sz115 ag115 zc115 sr115 sz116 ag116 zc116 sr116 sz117 ag117 zc117 sr117 sz118 ag118 zc118 sr118 ni118 ta118 sz119 ag119 zc119 sr119 sz120 ag120 zc120 sr120 fd120_0 fo120_0 fd120_1 fo120_1 fd120_2 fo120_2 pl120 bd120 sz121 ag121 zc121 sr121 fd121_0 fo121_0 fd121_1 fo121_1 fd121_2 fo121_2 pl121 bd121 ni121 ta121 sz123 ag123 zc123 sr123 sz124 ag124 zc124 sr124 sz125 ag125 zc125 sr125 sz126 ag126 zc126 sr126 sz127 ag127 zc127 sr127 ln127 mk127 sz128 ag128 zc128 sr128 sz129 ag129 zc129 sr129 sz130 ag130 zc130 sr130 sz131 ag131 zc131 sr131 sz132 ag132 zc132 sr132 sz133 ag133 zc133 sr133 sz134 ag134 zc134 sr134 ln134 sz135 ag135 zc135 sr135 fd135_0 fo135_0 fd135_1 fo135_1 pl135 bd135 sz136 ag136 zc136 sr136 fd136_0 fo136_0 fd136_1 fo136_1 pl136 bd136 es136 ni136 ta136 sz138 ag138 zc138 sr138 sz140 ag140 zc140 sr140 sz141 ag141 zc141 sr141 sz142 ag142 zc142 sr142 sz143 ag143 zc143 sr143 sz144 ag144 zc144 sr144 el144 cu144 ap144 bs144 ms144 mm144 mc144 mb144 ma144 ae144_144 ln144 sz145 ag145 zc145 sr145 sz146 ag146 zc146 sr146 sz147 ag147 zc147 sr147 sz148 ag148 zc148 sr148 sz149 ag149 zc149 sr149 sz150 ag150 zc150 sr150 sz151 ag151 zc151 sr151 sz152 ag152 zc152 sr152 sz153 ag153 zc153 sr153 sz154 ag154 zc154 sr154 sz155 ag155 zc155 sr155 sz156 ag156 zc156 sr156 sz157 ag157 zc157 sr157 sz158 ag158 zc158 sr158 sz159 ag159 zc159 sr159 sz160 ag160 zc160 sr160 sz161 ag161 zc161 sr161 sz162 ag162 zc162 sr162 sz163 ag163 zc163 sr163 ni163 ta163 sz165 ag165 zc165 sr165 sz166 ag166 zc166 sr166 sz167 ag167 zc167 sr167 sz169 ag169 zc169 sr169 sz170 ag170 zc170 sr170 sz171 ag171 zc171 sr171 sz172 ag172 zc172 sr172 sz173 ag173 zc173 sr173 sz174 ag174 zc174 sr174 sz175 ag175 zc175 sr175 sz176 ag176 zc176 sr176 sz177 ag177 zc177 sr177 sz178 ag178 zc178 sr178 sz179 ag179 zc179 sr179 sz180 ag180 zc180 sr180 sz181 ag181 zc181 sr181 sz182 ag182 zc182 sr182 ni182 ta182 sz183 ag183 zc183 sr183 sz184 ag184 zc184 sr184 sz185 ag185 zc185 sr185 sz186 ag186 zc186 sr186 ni186 ta186 sz187 ag187 zc187 sr187 sz188 ag188 zc188 sr188 sz189 ag189 zc189 sr189 sz190 ag190 zc190 sr190 sz191 ag191 zc191 sr191 ni191 ta191 sz192 ag192 zc192 sr192 sz193 ag193 zc193 sr193 sz194 ag194 zc194 sr194 sz195 ag195 zc195 sr195 fd195_0 fo195_0 fd195_1 fo195_1 fd195_2 fo195_2 fd195_3 fo195_3 pl195 bd195 sz196 ag196 zc196 sr196 fd196_0 fo196_0 fd196_1 fo196_1 fd196_2 fo196_2 fd196_3 fo196_3 pl196 bd196 ni196 ta196 sz197 ag197 zc197 sr197 es197 el197 ln197 sz198 ag198 zc198 sr198 fd198_0 pl198 bd198 sz199 ag199 zc199 sr199 fd199_0 pl199 bd199 ni199 ta199 sz200 ag200 zc200 sr200 sz201 ag201 zc201 sr201 ni201 ta201 sz202 ag202 zc202 sr202 ni202 ta202 sz203 ag203 zc203 sr203 sz204 ag204 zc204 sr204 ni204 ta204 sz205 ag205 zc205 sr205 ni205 ta205 sz206 ag206 zc206 sr206 ni206 ta206 sz207 ag207 zc207 sr207 fd207_0 fo207_0 fd207_1 fo207_1 fd207_2 fo207_2 fd207_3 fo207_3 fd207_4 fo207_4 fd207_5 fo207_5 fd207_6 fo207_6 fd207_7 fo207_7 fd207_8 fo207_8 fd207_9 fo207_9 fd207_10 fo207_10 pl207 bd207 sz208 ag208 zc208 sr208 fd208_0 fo208_0 fd208_1 fo208_1 fd208_2 fo208_2 fd208_3 fo208_3 fd208_4 fo208_4 fd208_5 fo208_5 fd208_6 fo208_6 fd208_7 fo208_7 fd208_8 fo208_8 fd208_9 fo208_9 fd208_10 fo208_10 pl208 bd208 ni208 ta208 sz209 ag209 zc209 sr209 mu82 mu89 mu127 mq82 mq89 mq127 mq134 ar197 ba197 cv2_2 cv2_3 cv2_5 cv2_6 cv2_12 cv2_21 cv2_26 cv2_117 cv2_118 cv2_163 cv2_171 cv2_173 cv2_182 cv2_201 cv2_202 cv2_205 cv2_206 cv3_2 cv3_3 cv3_5 cv3_6 cv3_12 cv3_21 cv3_26 cv3_117 cv3_118 cv3_163 cv3_171 cv3_173 cv3_182 cv3_201 cv3_202 cv3_205 cv3_206 cv5_2 cv5_3 cv5_5 cv5_6 cv5_12 cv5_21 cv5_26 cv5_117 cv5_118 cv5_163 cv5_171 cv5_173 cv5_182 cv5_201 cv5_202 cv5_205 cv5_206 cv6_2 cv6_3 cv6_5 cv6_6 cv6_12 cv6_21 cv6_26 cv6_117 cv6_118 cv6_163 cv6_171 cv6_173 cv6_182 cv6_201 cv6_202 cv6_205 cv6_206 cv9_9 cv9_10 cv9_11 cv10_9 cv10_10 cv10_11 cv11_9 cv11_10 cv11_11 cv12_2 cv12_3 cv12_5 cv12_6 cv12_12 cv12_21 cv12_26 cv12_117 cv12_118 cv12_163 cv12_171 cv12_173 cv12_182 cv12_201 cv12_202 cv12_205 cv12_206 cv21_2 cv21_3 cv21_5 cv21_6 cv21_12 cv21_21 cv21_26 cv21_117 cv21_118 cv21_163 cv21_171 cv21_173 cv21_182 cv21_201 cv21_202 cv21_205 cv21_206 cv26_2 cv26_3 cv26_5 cv26_6 cv26_12 cv26_21 cv26_26 cv26_117 cv26_118 cv26_163 cv26_171 cv26_173 cv26_182 cv26_201 cv26_202 cv26_205 cv26_206 cv117_2 cv117_3 cv117_5 cv117_6 cv117_12 cv117_21 cv117_26 cv117_117 cv117_118 cv117_163 cv117_171 cv117_173 cv117_182 cv117_201 cv117_202 cv117_205 cv117_206 cv118_2 cv118_3 cv118_5 cv118_6 cv118_12 cv118_21 cv118_26 cv118_117 cv118_118 cv118_163 cv118_171 cv118_173 cv118_182 cv118_201 cv118_202 cv118_205 cv118_206 cv163_2 cv163_3 cv163_5 cv163_6 cv163_12 cv163_21 cv163_26 cv163_117 cv163_118 cv163_163 cv163_171 cv163_173 cv163_182 cv163_201 cv163_202 cv163_205 cv163_206 cv171_2 cv171_3 cv171_5 cv171_6 cv171_12 cv171_21 cv171_26 cv171_117 cv171_118 cv171_163 cv171_171 cv171_173 cv171_182 cv171_201 cv171_202 cv171_205 cv171_206 cv173_2 cv173_3 cv173_5 cv173_6 cv173_12 cv173_21 cv173_26 cv173_117 cv173_118 cv173_163 cv173_171 cv173_173 cv173_182 cv173_201 cv173_202 cv173_205 cv173_206 cv182_2 cv182_3 cv182_5 cv182_6 cv182_12 cv182_21 cv182_26 cv182_117 cv182_118 cv182_163 cv182_171 cv182_173 cv182_182 cv182_201 cv182_202 cv182_205 cv182_206 cv201_2 cv201_3 cv201_5 cv201_6 cv201_12 cv201_21 cv201_26 cv201_117 cv201_118 cv201_163 cv201_171 cv201_173 cv201_182 cv201_201 cv201_202 cv201_205 cv201_206 cv202_2 cv202_3 cv202_5 cv202_6 cv202_12 cv202_21 cv202_26 cv202_117 cv202_118 cv202_163 cv202_171 cv202_173 cv202_182 cv202_201 cv202_202 cv202_205 cv202_206 cv205_2 cv205_3 cv205_5 cv205_6 cv205_12 cv205_21 cv205_26 cv205_117 cv205_118 cv205_163 cv205_171 cv205_173 cv205_182 cv205_201 cv205_202 cv205_205 cv205_206 cv206_2 cv206_3 cv206_5 cv206_6 cv206_12 cv206_21 cv206_26 cv206_117 cv206_118 cv206_163 cv206_171 cv206_173 cv206_182 cv206_201 cv206_202 cv206_205 cv206_206
end Go.Proofs.Ytelehpccfaedjaa.Ty
