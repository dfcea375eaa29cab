/- Texts joined: Ty. No conditions. -/
import Derived.Test.YtaepdkjfaeepmaaProg
import Derived.Test.YtaepdkjfaeepmaaMrE
import Derived.KernelRfl
/- The closed facts on the types of this translation: cells, zero values, places of fields, elements. By program; no conditions. -/
namespace Go.Proofs.Ytaepdkjfaeepmaa.Ty
open Go Go.Proofs Go.Abs
theorem mixed : Try.prog.follows .mixedOrders = true := by kernel_rfl
theorem sz1 : tsz Try.prog 1 = some 1 := by kernel_rfl
theorem ag1 : tag Try.prog 1 = some none := by kernel_rfl
theorem zc1 : tzc Try.prog 1 = some [.nilFunc] := by kernel_rfl
theorem sr1 : tsrc Try.prog 1 = true := by kernel_rfl
theorem sz2 : tsz Try.prog 2 = some 1 := by kernel_rfl
theorem ag2 : tag Try.prog 2 = some none := by kernel_rfl
theorem zc2 : tzc Try.prog 2 = some [(.int .i64 0)] := by kernel_rfl
theorem sr2 : tsrc Try.prog 2 = false := by kernel_rfl
theorem sz3 : tsz Try.prog 3 = some 1 := by kernel_rfl
theorem ag3 : tag Try.prog 3 = some none := by kernel_rfl
theorem zc3 : tzc Try.prog 3 = some [(.int .i64 0)] := by kernel_rfl
theorem sr3 : tsrc Try.prog 3 = false := by kernel_rfl
theorem sz4 : tsz Try.prog 4 = some 1 := by kernel_rfl
theorem ag4 : tag Try.prog 4 = some none := by kernel_rfl
theorem zc4 : tzc Try.prog 4 = some [(.bool false)] := by kernel_rfl
theorem sr4 : tsrc Try.prog 4 = true := by kernel_rfl
theorem bo4 : tbool Try.prog 4 = true := by kernel_rfl
theorem sz5 : tsz Try.prog 5 = some 1 := by kernel_rfl
theorem ag5 : tag Try.prog 5 = some none := by kernel_rfl
theorem zc5 : tzc Try.prog 5 = some [(.int .u8 0)] := by kernel_rfl
theorem sr5 : tsrc Try.prog 5 = false := by kernel_rfl
theorem sz6 : tsz Try.prog 6 = some 1 := by kernel_rfl
theorem ag6 : tag Try.prog 6 = some none := by kernel_rfl
theorem zc6 : tzc Try.prog 6 = some [(.int .u8 0)] := by kernel_rfl
theorem sr6 : tsrc Try.prog 6 = false := by kernel_rfl
theorem ni6 : tni Try.prog 6 = true := by kernel_rfl
theorem ta6 : tas Try.prog 6 = some (.int .u8 0) := by kernel_rfl
theorem sz7 : tsz Try.prog 7 = some 4 := by kernel_rfl
theorem ag7 : tag Try.prog 7 = some (some 4) := by kernel_rfl
theorem zc7 : tzc Try.prog 7 = some [(.int .i64 0), (.int .i64 0), (.bool false), (.int .u8 0)] := by kernel_rfl
theorem sr7 : tsrc Try.prog 7 = true := by kernel_rfl
theorem fd7_0 : tfd Try.prog 7 0 = some (0, 2) := by kernel_rfl
theorem fo7_0 : tfo Try.prog 7 0 = some 0 := by kernel_rfl
theorem fd7_1 : tfd Try.prog 7 1 = some (1, 3) := by kernel_rfl
theorem fo7_1 : tfo Try.prog 7 1 = some 1 := by kernel_rfl
theorem fd7_2 : tfd Try.prog 7 2 = some (2, 4) := by kernel_rfl
theorem fo7_2 : tfo Try.prog 7 2 = some 2 := by kernel_rfl
theorem fd7_3 : tfd Try.prog 7 3 = some (3, 6) := by kernel_rfl
theorem fo7_3 : tfo Try.prog 7 3 = some 3 := by kernel_rfl
theorem pl7 : tpl Try.prog 7 = some [(0, 1), (1, 1), (2, 1), (3, 1)] := by kernel_rfl
theorem bd7 (ps : List (Nat × AV)) (K : AV → Prop) : aBuild Try.prog 7 ps K = aBld (tpl Try.prog 7) (tzc Try.prog 7) ps K := aBuild_eq (by rw [pl7]; rfl) ps K
theorem sz8 : tsz Try.prog 8 = some 4 := by kernel_rfl
theorem ag8 : tag Try.prog 8 = some (some 4) := by kernel_rfl
theorem zc8 : tzc Try.prog 8 = some [(.int .i64 0), (.int .i64 0), (.bool false), (.int .u8 0)] := by kernel_rfl
theorem sr8 : tsrc Try.prog 8 = true := by kernel_rfl
theorem fd8_0 : tfd Try.prog 8 0 = some (0, 2) := by kernel_rfl
theorem fo8_0 : tfo Try.prog 8 0 = some 0 := by kernel_rfl
theorem fd8_1 : tfd Try.prog 8 1 = some (1, 3) := by kernel_rfl
theorem fo8_1 : tfo Try.prog 8 1 = some 1 := by kernel_rfl
theorem fd8_2 : tfd Try.prog 8 2 = some (2, 4) := by kernel_rfl
theorem fo8_2 : tfo Try.prog 8 2 = some 2 := by kernel_rfl
theorem fd8_3 : tfd Try.prog 8 3 = some (3, 6) := by kernel_rfl
theorem fo8_3 : tfo Try.prog 8 3 = some 3 := by kernel_rfl
theorem pl8 : tpl Try.prog 8 = some [(0, 1), (1, 1), (2, 1), (3, 1)] := by kernel_rfl
theorem bd8 (ps : List (Nat × AV)) (K : AV → Prop) : aBuild Try.prog 8 ps K = aBld (tpl Try.prog 8) (tzc Try.prog 8) ps K := aBuild_eq (by rw [pl8]; rfl) ps K
theorem ni8 : tni Try.prog 8 = true := by kernel_rfl
theorem ta8 : tas Try.prog 8 = some (.agg [(.int .i64 0), (.int .i64 0), (.bool false), (.int .u8 0)]) := by kernel_rfl
theorem sz9 : tsz Try.prog 9 = some 1 := by kernel_rfl
theorem ag9 : tag Try.prog 9 = some none := by kernel_rfl
theorem zc9 : tzc Try.prog 9 = some [(.str ⟨#[]⟩)] := by kernel_rfl
theorem sr9 : tsrc Try.prog 9 = true := by kernel_rfl
theorem cu9 : tcut Try.prog 9 = some none := by kernel_rfl
theorem ln9 : tlen Try.prog 9 = some .str := by kernel_rfl
theorem sz10 : tsz Try.prog 10 = some 1 := by kernel_rfl
theorem ag10 : tag Try.prog 10 = some none := by kernel_rfl
theorem zc10 : tzc Try.prog 10 = some [(.str ⟨#[]⟩)] := by kernel_rfl
theorem sr10 : tsrc Try.prog 10 = true := by kernel_rfl
theorem ni10 : tni Try.prog 10 = true := by kernel_rfl
theorem ta10 : tas Try.prog 10 = some (.str ⟨#[]⟩) := by kernel_rfl
theorem cu10 : tcut Try.prog 10 = some none := by kernel_rfl
theorem ln10 : tlen Try.prog 10 = some .str := by kernel_rfl
theorem sz11 : tsz Try.prog 11 = some 1 := by kernel_rfl
theorem ag11 : tag Try.prog 11 = some none := by kernel_rfl
theorem zc11 : tzc Try.prog 11 = some [(.str ⟨#[]⟩)] := by kernel_rfl
theorem sr11 : tsrc Try.prog 11 = true := by kernel_rfl
theorem ni11 : tni Try.prog 11 = true := by kernel_rfl
theorem ta11 : tas Try.prog 11 = some (.str ⟨#[]⟩) := by kernel_rfl
theorem cu11 : tcut Try.prog 11 = some none := by kernel_rfl
theorem ln11 : tlen Try.prog 11 = some .str := by kernel_rfl
theorem sz12 : tsz Try.prog 12 = some 1 := by kernel_rfl
theorem ag12 : tag Try.prog 12 = some none := by kernel_rfl
theorem zc12 : tzc Try.prog 12 = some [(.int .u64 0)] := by kernel_rfl
theorem sr12 : tsrc Try.prog 12 = false := by kernel_rfl
theorem sz13 : tsz Try.prog 13 = some 2 := by kernel_rfl
theorem ag13 : tag Try.prog 13 = some (some 2) := by kernel_rfl
theorem zc13 : tzc Try.prog 13 = some [(.str ⟨#[]⟩), (.int .u64 0)] := by kernel_rfl
theorem sr13 : tsrc Try.prog 13 = true := by kernel_rfl
theorem fd13_0 : tfd Try.prog 13 0 = some (0, 9) := by kernel_rfl
theorem fo13_0 : tfo Try.prog 13 0 = some 0 := by kernel_rfl
theorem fd13_1 : tfd Try.prog 13 1 = some (1, 12) := by kernel_rfl
theorem fo13_1 : tfo Try.prog 13 1 = some 1 := by kernel_rfl
theorem pl13 : tpl Try.prog 13 = some [(0, 1), (1, 1)] := by kernel_rfl
theorem bd13 (ps : List (Nat × AV)) (K : AV → Prop) : aBuild Try.prog 13 ps K = aBld (tpl Try.prog 13) (tzc Try.prog 13) ps K := aBuild_eq (by rw [pl13]; rfl) ps K
theorem sz14 : tsz Try.prog 14 = some 2 := by kernel_rfl
theorem ag14 : tag Try.prog 14 = some (some 2) := by kernel_rfl
theorem zc14 : tzc Try.prog 14 = some [(.str ⟨#[]⟩), (.int .u64 0)] := by kernel_rfl
theorem sr14 : tsrc Try.prog 14 = true := by kernel_rfl
theorem fd14_0 : tfd Try.prog 14 0 = some (0, 9) := by kernel_rfl
theorem fo14_0 : tfo Try.prog 14 0 = some 0 := by kernel_rfl
theorem fd14_1 : tfd Try.prog 14 1 = some (1, 12) := by kernel_rfl
theorem fo14_1 : tfo Try.prog 14 1 = some 1 := by kernel_rfl
theorem pl14 : tpl Try.prog 14 = some [(0, 1), (1, 1)] := by kernel_rfl
theorem bd14 (ps : List (Nat × AV)) (K : AV → Prop) : aBuild Try.prog 14 ps K = aBld (tpl Try.prog 14) (tzc Try.prog 14) ps K := aBuild_eq (by rw [pl14]; rfl) ps K
theorem ni14 : tni Try.prog 14 = true := by kernel_rfl
theorem ta14 : tas Try.prog 14 = some (.agg [(.str ⟨#[]⟩), (.int .u64 0)]) := by kernel_rfl
theorem sz15 : tsz Try.prog 15 = some 1 := by kernel_rfl
theorem ag15 : tag Try.prog 15 = some none := by kernel_rfl
theorem zc15 : tzc Try.prog 15 = some [(.ptr none)] := by kernel_rfl
theorem sr15 : tsrc Try.prog 15 = true := by kernel_rfl
theorem ni15 : tni Try.prog 15 = true := by kernel_rfl
theorem ta15 : tas Try.prog 15 = some (.ptr none) := by kernel_rfl
theorem sz16 : tsz Try.prog 16 = some 1 := by kernel_rfl
theorem ag16 : tag Try.prog 16 = some none := by kernel_rfl
theorem zc16 : tzc Try.prog 16 = some [(.ptr none)] := by kernel_rfl
theorem sr16 : tsrc Try.prog 16 = true := by kernel_rfl
theorem ni16 : tni Try.prog 16 = true := by kernel_rfl
theorem ta16 : tas Try.prog 16 = some (.ptr none) := by kernel_rfl
theorem sz17 : tsz Try.prog 17 = some 1 := by kernel_rfl
theorem ag17 : tag Try.prog 17 = some none := by kernel_rfl
theorem zc17 : tzc Try.prog 17 = some [(.ptr none)] := by kernel_rfl
theorem sr17 : tsrc Try.prog 17 = true := by kernel_rfl
theorem ni17 : tni Try.prog 17 = true := by kernel_rfl
theorem ta17 : tas Try.prog 17 = some (.ptr none) := by kernel_rfl
theorem sz18 : tsz Try.prog 18 = some 1 := by kernel_rfl
theorem ag18 : tag Try.prog 18 = some (some 1) := by kernel_rfl
theorem zc18 : tzc Try.prog 18 = some [(.ptr none)] := by kernel_rfl
theorem sr18 : tsrc Try.prog 18 = true := by kernel_rfl
theorem fd18_0 : tfd Try.prog 18 0 = some (0, 17) := by kernel_rfl
theorem fo18_0 : tfo Try.prog 18 0 = some 0 := by kernel_rfl
theorem pl18 : tpl Try.prog 18 = some [(0, 1)] := by kernel_rfl
theorem bd18 (ps : List (Nat × AV)) (K : AV → Prop) : aBuild Try.prog 18 ps K = aBld (tpl Try.prog 18) (tzc Try.prog 18) ps K := aBuild_eq (by rw [pl18]; rfl) ps K
theorem sz19 : tsz Try.prog 19 = some 1 := by kernel_rfl
theorem ag19 : tag Try.prog 19 = some (some 1) := by kernel_rfl
theorem zc19 : tzc Try.prog 19 = some [(.ptr none)] := by kernel_rfl
theorem sr19 : tsrc Try.prog 19 = true := by kernel_rfl
theorem fd19_0 : tfd Try.prog 19 0 = some (0, 17) := by kernel_rfl
theorem fo19_0 : tfo Try.prog 19 0 = some 0 := by kernel_rfl
theorem pl19 : tpl Try.prog 19 = some [(0, 1)] := by kernel_rfl
theorem bd19 (ps : List (Nat × AV)) (K : AV → Prop) : aBuild Try.prog 19 ps K = aBld (tpl Try.prog 19) (tzc Try.prog 19) ps K := aBuild_eq (by rw [pl19]; rfl) ps K
theorem ni19 : tni Try.prog 19 = true := by kernel_rfl
theorem ta19 : tas Try.prog 19 = some (.agg [(.ptr none)]) := by kernel_rfl
theorem sz20 : tsz Try.prog 20 = some 1 := by kernel_rfl
theorem ag20 : tag Try.prog 20 = some none := by kernel_rfl
theorem zc20 : tzc Try.prog 20 = some [.nilIface] := by kernel_rfl
theorem sr20 : tsrc Try.prog 20 = true := by kernel_rfl
theorem if20 : tifc Try.prog 20 = true := by kernel_rfl
theorem sz21 : tsz Try.prog 21 = some 1 := by kernel_rfl
theorem ag21 : tag Try.prog 21 = some none := by kernel_rfl
theorem zc21 : tzc Try.prog 21 = some [(.int .i32 0)] := by kernel_rfl
theorem sr21 : tsrc Try.prog 21 = false := by kernel_rfl
theorem sz22 : tsz Try.prog 22 = some 1 := by kernel_rfl
theorem ag22 : tag Try.prog 22 = some none := by kernel_rfl
theorem zc22 : tzc Try.prog 22 = some [(.sl [] .full)] := by kernel_rfl
theorem sr22 : tsrc Try.prog 22 = true := by kernel_rfl
theorem el22 : tel Try.prog 22 = some (none, 3) := by kernel_rfl
theorem cu22 : tcut Try.prog 22 = some (some 3) := by kernel_rfl
theorem ap22 : tap Try.prog 22 = some (3, 24) := by kernel_rfl
theorem bs22 : tbs Try.prog 22 = some 3 := by kernel_rfl
theorem ms22 : tms Try.prog 22 = some (3, 24, [(.int .i64 0), (.int .i64 0), (.int .i64 0)], 50) := by kernel_rfl
theorem mm22 (l c : AV) (h : AH) (K : AV → AH → Prop) : aMakeSlice Try.prog 22 l c h K = aMkT (tms Try.prog 22) l c h K := aMakeSlice_eq (by rw [ms22]; rfl) l c K
theorem mc22 (x : AV) (h : AH) (K : AV → AH → Prop) : aClear Try.prog 22 x h K = aClT (tms Try.prog 22) x h K := aClear_eq (by rw [ms22]; rfl) x K
theorem mb22 (n : Nat) (ps : List (Nat × AV)) (h : AH) (K : AV → AH → Prop) : aBuildSliceM Try.prog 22 n ps h K = aBsM (tms Try.prog 22) n ps h K := aBuildSliceM_eq (by rw [ms22]; rfl) n ps K
theorem ma22 (s x : AV) (h : AH) (K : AV → AH → Prop) : aAppendM Try.prog 22 22 s x h K = aApM (tms Try.prog 22) s x h K := aAppendM_eq sr22 (by rw [ms22]; rfl) s x K
theorem ae22_22 (s x : AV) (h : AH) (K : AV → AH → Prop) : aAppend Try.prog 22 22 s x h K = aAp (tap Try.prog 22) s x h K := aAppend_eq sr22 s x K
theorem ln22 : tlen Try.prog 22 = some .sl := by kernel_rfl
theorem sz23 : tsz Try.prog 23 = some 1 := by kernel_rfl
theorem ag23 : tag Try.prog 23 = some none := by kernel_rfl
theorem zc23 : tzc Try.prog 23 = some [(.sl [] .full)] := by kernel_rfl
theorem sr23 : tsrc Try.prog 23 = true := by kernel_rfl
theorem el23 : tel Try.prog 23 = some (none, 1) := by kernel_rfl
theorem cu23 : tcut Try.prog 23 = some (some 1) := by kernel_rfl
theorem ap23 : tap Try.prog 23 = some (1, 8) := by kernel_rfl
theorem bs23 : tbs Try.prog 23 = some 1 := by kernel_rfl
theorem ms23 : tms Try.prog 23 = some (1, 8, [(.int .i64 0)], 3) := by kernel_rfl
theorem mm23 (l c : AV) (h : AH) (K : AV → AH → Prop) : aMakeSlice Try.prog 23 l c h K = aMkT (tms Try.prog 23) l c h K := aMakeSlice_eq (by rw [ms23]; rfl) l c K
theorem mc23 (x : AV) (h : AH) (K : AV → AH → Prop) : aClear Try.prog 23 x h K = aClT (tms Try.prog 23) x h K := aClear_eq (by rw [ms23]; rfl) x K
theorem mb23 (n : Nat) (ps : List (Nat × AV)) (h : AH) (K : AV → AH → Prop) : aBuildSliceM Try.prog 23 n ps h K = aBsM (tms Try.prog 23) n ps h K := aBuildSliceM_eq (by rw [ms23]; rfl) n ps K
theorem ma23 (s x : AV) (h : AH) (K : AV → AH → Prop) : aAppendM Try.prog 23 23 s x h K = aApM (tms Try.prog 23) s x h K := aAppendM_eq sr23 (by rw [ms23]; rfl) s x K
theorem ae23_23 (s x : AV) (h : AH) (K : AV → AH → Prop) : aAppend Try.prog 23 23 s x h K = aAp (tap Try.prog 23) s x h K := aAppend_eq sr23 s x K
theorem ln23 : tlen Try.prog 23 = some .sl := by kernel_rfl
theorem sz24 : tsz Try.prog 24 = some 1 := by kernel_rfl
theorem ag24 : tag Try.prog 24 = some none := by kernel_rfl
theorem zc24 : tzc Try.prog 24 = some [(.sl [] .full)] := by kernel_rfl
theorem sr24 : tsrc Try.prog 24 = true := by kernel_rfl
theorem el24 : tel Try.prog 24 = some (none, 1) := by kernel_rfl
theorem cu24 : tcut Try.prog 24 = some (some 1) := by kernel_rfl
theorem ap24 : tap Try.prog 24 = some (1, 24) := by kernel_rfl
theorem bs24 : tbs Try.prog 24 = some 1 := by kernel_rfl
theorem ms24 : tms Try.prog 24 = some (1, 24, [(.sl [] .full)], 23) := by kernel_rfl
theorem mm24 (l c : AV) (h : AH) (K : AV → AH → Prop) : aMakeSlice Try.prog 24 l c h K = aMkT (tms Try.prog 24) l c h K := aMakeSlice_eq (by rw [ms24]; rfl) l c K
theorem mc24 (x : AV) (h : AH) (K : AV → AH → Prop) : aClear Try.prog 24 x h K = aClT (tms Try.prog 24) x h K := aClear_eq (by rw [ms24]; rfl) x K
theorem mb24 (n : Nat) (ps : List (Nat × AV)) (h : AH) (K : AV → AH → Prop) : aBuildSliceM Try.prog 24 n ps h K = aBsM (tms Try.prog 24) n ps h K := aBuildSliceM_eq (by rw [ms24]; rfl) n ps K
theorem ma24 (s x : AV) (h : AH) (K : AV → AH → Prop) : aAppendM Try.prog 24 24 s x h K = aApM (tms Try.prog 24) s x h K := aAppendM_eq sr24 (by rw [ms24]; rfl) s x K
theorem ae24_24 (s x : AV) (h : AH) (K : AV → AH → Prop) : aAppend Try.prog 24 24 s x h K = aAp (tap Try.prog 24) s x h K := aAppend_eq sr24 s x K
theorem ln24 : tlen Try.prog 24 = some .sl := by kernel_rfl
theorem sz25 : tsz Try.prog 25 = some 5 := by kernel_rfl
theorem ag25 : tag Try.prog 25 = some (some 5) := by kernel_rfl
theorem zc25 : tzc Try.prog 25 = some [(.sl [] .full), (.sl [] .full), (.sl [] .full), (.sl [] .full), (.sl [] .full)] := by kernel_rfl
theorem sr25 : tsrc Try.prog 25 = true := by kernel_rfl
theorem fd25_0 : tfd Try.prog 25 0 = some (0, 22) := by kernel_rfl
theorem fo25_0 : tfo Try.prog 25 0 = some 0 := by kernel_rfl
theorem fd25_1 : tfd Try.prog 25 1 = some (1, 23) := by kernel_rfl
theorem fo25_1 : tfo Try.prog 25 1 = some 1 := by kernel_rfl
theorem fd25_2 : tfd Try.prog 25 2 = some (2, 23) := by kernel_rfl
theorem fo25_2 : tfo Try.prog 25 2 = some 2 := by kernel_rfl
theorem fd25_3 : tfd Try.prog 25 3 = some (3, 23) := by kernel_rfl
theorem fo25_3 : tfo Try.prog 25 3 = some 3 := by kernel_rfl
theorem fd25_4 : tfd Try.prog 25 4 = some (4, 24) := by kernel_rfl
theorem fo25_4 : tfo Try.prog 25 4 = some 4 := by kernel_rfl
theorem pl25 : tpl Try.prog 25 = some [(0, 1), (1, 1), (2, 1), (3, 1), (4, 1)] := by kernel_rfl
theorem bd25 (ps : List (Nat × AV)) (K : AV → Prop) : aBuild Try.prog 25 ps K = aBld (tpl Try.prog 25) (tzc Try.prog 25) ps K := aBuild_eq (by rw [pl25]; rfl) ps K
theorem sz26 : tsz Try.prog 26 = some 5 := by kernel_rfl
theorem ag26 : tag Try.prog 26 = some (some 5) := by kernel_rfl
theorem zc26 : tzc Try.prog 26 = some [(.sl [] .full), (.sl [] .full), (.sl [] .full), (.sl [] .full), (.sl [] .full)] := by kernel_rfl
theorem sr26 : tsrc Try.prog 26 = true := by kernel_rfl
theorem fd26_0 : tfd Try.prog 26 0 = some (0, 22) := by kernel_rfl
theorem fo26_0 : tfo Try.prog 26 0 = some 0 := by kernel_rfl
theorem fd26_1 : tfd Try.prog 26 1 = some (1, 23) := by kernel_rfl
theorem fo26_1 : tfo Try.prog 26 1 = some 1 := by kernel_rfl
theorem fd26_2 : tfd Try.prog 26 2 = some (2, 23) := by kernel_rfl
theorem fo26_2 : tfo Try.prog 26 2 = some 2 := by kernel_rfl
theorem fd26_3 : tfd Try.prog 26 3 = some (3, 23) := by kernel_rfl
theorem fo26_3 : tfo Try.prog 26 3 = some 3 := by kernel_rfl
theorem fd26_4 : tfd Try.prog 26 4 = some (4, 24) := by kernel_rfl
theorem fo26_4 : tfo Try.prog 26 4 = some 4 := by kernel_rfl
theorem pl26 : tpl Try.prog 26 = some [(0, 1), (1, 1), (2, 1), (3, 1), (4, 1)] := by kernel_rfl
theorem bd26 (ps : List (Nat × AV)) (K : AV → Prop) : aBuild Try.prog 26 ps K = aBld (tpl Try.prog 26) (tzc Try.prog 26) ps K := aBuild_eq (by rw [pl26]; rfl) ps K
theorem ni26 : tni Try.prog 26 = true := by kernel_rfl
theorem ta26 : tas Try.prog 26 = some (.agg [(.sl [] .full), (.sl [] .full), (.sl [] .full), (.sl [] .full), (.sl [] .full)]) := by kernel_rfl
theorem sz27 : tsz Try.prog 27 = some 1 := by kernel_rfl
theorem ag27 : tag Try.prog 27 = some none := by kernel_rfl
theorem zc27 : tzc Try.prog 27 = some [.nilFunc] := by kernel_rfl
theorem sr27 : tsrc Try.prog 27 = true := by kernel_rfl
theorem sz28 : tsz Try.prog 28 = some 1 := by kernel_rfl
theorem ag28 : tag Try.prog 28 = some none := by kernel_rfl
theorem zc28 : tzc Try.prog 28 = some [.nilFunc] := by kernel_rfl
theorem sr28 : tsrc Try.prog 28 = true := by kernel_rfl
theorem sz29 : tsz Try.prog 29 = some 1 := by kernel_rfl
theorem ag29 : tag Try.prog 29 = some none := by kernel_rfl
theorem zc29 : tzc Try.prog 29 = some [(.sl [] .full)] := by kernel_rfl
theorem sr29 : tsrc Try.prog 29 = true := by kernel_rfl
theorem el29 : tel Try.prog 29 = some (none, 2) := by kernel_rfl
theorem cu29 : tcut Try.prog 29 = some (some 2) := by kernel_rfl
theorem ap29 : tap Try.prog 29 = some (2, 16) := by kernel_rfl
theorem bs29 : tbs Try.prog 29 = some 2 := by kernel_rfl
theorem ms29 : tms Try.prog 29 = some (2, 16, [(.int .i64 0), (.int .i64 0)], 52) := by kernel_rfl
theorem mm29 (l c : AV) (h : AH) (K : AV → AH → Prop) : aMakeSlice Try.prog 29 l c h K = aMkT (tms Try.prog 29) l c h K := aMakeSlice_eq (by rw [ms29]; rfl) l c K
theorem mc29 (x : AV) (h : AH) (K : AV → AH → Prop) : aClear Try.prog 29 x h K = aClT (tms Try.prog 29) x h K := aClear_eq (by rw [ms29]; rfl) x K
theorem mb29 (n : Nat) (ps : List (Nat × AV)) (h : AH) (K : AV → AH → Prop) : aBuildSliceM Try.prog 29 n ps h K = aBsM (tms Try.prog 29) n ps h K := aBuildSliceM_eq (by rw [ms29]; rfl) n ps K
theorem ma29 (s x : AV) (h : AH) (K : AV → AH → Prop) : aAppendM Try.prog 29 29 s x h K = aApM (tms Try.prog 29) s x h K := aAppendM_eq sr29 (by rw [ms29]; rfl) s x K
theorem ae29_29 (s x : AV) (h : AH) (K : AV → AH → Prop) : aAppend Try.prog 29 29 s x h K = aAp (tap Try.prog 29) s x h K := aAppend_eq sr29 s x K
theorem ln29 : tlen Try.prog 29 = some .sl := by kernel_rfl
theorem sz30 : tsz Try.prog 30 = some 1 := by kernel_rfl
theorem ag30 : tag Try.prog 30 = some none := by kernel_rfl
theorem zc30 : tzc Try.prog 30 = some [(.int .i64 0)] := by kernel_rfl
theorem sr30 : tsrc Try.prog 30 = false := by kernel_rfl
theorem ni30 : tni Try.prog 30 = true := by kernel_rfl
theorem ta30 : tas Try.prog 30 = some (.int .i64 0) := by kernel_rfl
theorem sz32 : tsz Try.prog 32 = some 1 := by kernel_rfl
theorem ag32 : tag Try.prog 32 = some none := by kernel_rfl
theorem zc32 : tzc Try.prog 32 = some [.nilFunc] := by kernel_rfl
theorem sr32 : tsrc Try.prog 32 = true := by kernel_rfl
theorem sz33 : tsz Try.prog 33 = some 1 := by kernel_rfl
theorem ag33 : tag Try.prog 33 = some none := by kernel_rfl
theorem zc33 : tzc Try.prog 33 = some [.nilFunc] := by kernel_rfl
theorem sr33 : tsrc Try.prog 33 = true := by kernel_rfl
theorem sz34 : tsz Try.prog 34 = some 1 := by kernel_rfl
theorem ag34 : tag Try.prog 34 = some none := by kernel_rfl
theorem zc34 : tzc Try.prog 34 = some [.nilFunc] := by kernel_rfl
theorem sr34 : tsrc Try.prog 34 = true := by kernel_rfl
theorem sz36 : tsz Try.prog 36 = some 1 := by kernel_rfl
theorem ag36 : tag Try.prog 36 = some none := by kernel_rfl
theorem zc36 : tzc Try.prog 36 = some [.nilFunc] := by kernel_rfl
theorem sr36 : tsrc Try.prog 36 = true := by kernel_rfl
theorem sz38 : tsz Try.prog 38 = some 1 := by kernel_rfl
theorem ag38 : tag Try.prog 38 = some none := by kernel_rfl
theorem zc38 : tzc Try.prog 38 = some [.nilFunc] := by kernel_rfl
theorem sr38 : tsrc Try.prog 38 = true := by kernel_rfl
theorem sz39 : tsz Try.prog 39 = some 1 := by kernel_rfl
theorem ag39 : tag Try.prog 39 = some none := by kernel_rfl
theorem zc39 : tzc Try.prog 39 = some [.nilFunc] := by kernel_rfl
theorem sr39 : tsrc Try.prog 39 = true := by kernel_rfl
theorem sz40 : tsz Try.prog 40 = some 1 := by kernel_rfl
theorem ag40 : tag Try.prog 40 = some none := by kernel_rfl
theorem zc40 : tzc Try.prog 40 = some [.nilFunc] := by kernel_rfl
theorem sr40 : tsrc Try.prog 40 = true := by kernel_rfl
theorem sz41 : tsz Try.prog 41 = some 1 := by kernel_rfl
theorem ag41 : tag Try.prog 41 = some none := by kernel_rfl
theorem zc41 : tzc Try.prog 41 = some [.nilFunc] := by kernel_rfl
theorem sr41 : tsrc Try.prog 41 = true := by kernel_rfl
theorem sz42 : tsz Try.prog 42 = some 1 := by kernel_rfl
theorem ag42 : tag Try.prog 42 = some none := by kernel_rfl
theorem zc42 : tzc Try.prog 42 = some [.nilFunc] := by kernel_rfl
theorem sr42 : tsrc Try.prog 42 = true := by kernel_rfl
theorem sz43 : tsz Try.prog 43 = some 1 := by kernel_rfl
theorem ag43 : tag Try.prog 43 = some none := by kernel_rfl
theorem zc43 : tzc Try.prog 43 = some [.nilFunc] := by kernel_rfl
theorem sr43 : tsrc Try.prog 43 = true := by kernel_rfl
theorem sz44 : tsz Try.prog 44 = some 1 := by kernel_rfl
theorem ag44 : tag Try.prog 44 = some none := by kernel_rfl
theorem zc44 : tzc Try.prog 44 = some [.nilFunc] := by kernel_rfl
theorem sr44 : tsrc Try.prog 44 = true := by kernel_rfl
theorem sz45 : tsz Try.prog 45 = some 1 := by kernel_rfl
theorem ag45 : tag Try.prog 45 = some none := by kernel_rfl
theorem zc45 : tzc Try.prog 45 = some [.nilFunc] := by kernel_rfl
theorem sr45 : tsrc Try.prog 45 = true := by kernel_rfl
theorem sz46 : tsz Try.prog 46 = some 1 := by kernel_rfl
theorem ag46 : tag Try.prog 46 = some none := by kernel_rfl
theorem zc46 : tzc Try.prog 46 = some [(.map none)] := by kernel_rfl
theorem sr46 : tsrc Try.prog 46 = true := by kernel_rfl
theorem ln46 : tlen Try.prog 46 = some .map := by kernel_rfl
theorem mk46 : tmk Try.prog 46 = some (true, (.bool false)) := by kernel_rfl
theorem sz47 : tsz Try.prog 47 = some 1 := by kernel_rfl
theorem ag47 : tag Try.prog 47 = some none := by kernel_rfl
theorem zc47 : tzc Try.prog 47 = some [.nilFunc] := by kernel_rfl
theorem sr47 : tsrc Try.prog 47 = true := by kernel_rfl
theorem sz48 : tsz Try.prog 48 = some 1 := by kernel_rfl
theorem ag48 : tag Try.prog 48 = some none := by kernel_rfl
theorem zc48 : tzc Try.prog 48 = some [(.map none)] := by kernel_rfl
theorem sr48 : tsrc Try.prog 48 = true := by kernel_rfl
theorem ln48 : tlen Try.prog 48 = some .map := by kernel_rfl
theorem sz49 : tsz Try.prog 49 = some 3 := by kernel_rfl
theorem ag49 : tag Try.prog 49 = some (some 3) := by kernel_rfl
theorem zc49 : tzc Try.prog 49 = some [(.int .i64 0), (.int .i64 0), (.int .i64 0)] := by kernel_rfl
theorem sr49 : tsrc Try.prog 49 = true := by kernel_rfl
theorem fd49_0 : tfd Try.prog 49 0 = some (0, 3) := by kernel_rfl
theorem fo49_0 : tfo Try.prog 49 0 = some 0 := by kernel_rfl
theorem fd49_1 : tfd Try.prog 49 1 = some (1, 3) := by kernel_rfl
theorem fo49_1 : tfo Try.prog 49 1 = some 1 := by kernel_rfl
theorem fd49_2 : tfd Try.prog 49 2 = some (2, 3) := by kernel_rfl
theorem fo49_2 : tfo Try.prog 49 2 = some 2 := by kernel_rfl
theorem pl49 : tpl Try.prog 49 = some [(0, 1), (1, 1), (2, 1)] := by kernel_rfl
theorem bd49 (ps : List (Nat × AV)) (K : AV → Prop) : aBuild Try.prog 49 ps K = aBld (tpl Try.prog 49) (tzc Try.prog 49) ps K := aBuild_eq (by rw [pl49]; rfl) ps K
theorem sz50 : tsz Try.prog 50 = some 3 := by kernel_rfl
theorem ag50 : tag Try.prog 50 = some (some 3) := by kernel_rfl
theorem zc50 : tzc Try.prog 50 = some [(.int .i64 0), (.int .i64 0), (.int .i64 0)] := by kernel_rfl
theorem sr50 : tsrc Try.prog 50 = true := by kernel_rfl
theorem fd50_0 : tfd Try.prog 50 0 = some (0, 3) := by kernel_rfl
theorem fo50_0 : tfo Try.prog 50 0 = some 0 := by kernel_rfl
theorem fd50_1 : tfd Try.prog 50 1 = some (1, 3) := by kernel_rfl
theorem fo50_1 : tfo Try.prog 50 1 = some 1 := by kernel_rfl
theorem fd50_2 : tfd Try.prog 50 2 = some (2, 3) := by kernel_rfl
theorem fo50_2 : tfo Try.prog 50 2 = some 2 := by kernel_rfl
theorem pl50 : tpl Try.prog 50 = some [(0, 1), (1, 1), (2, 1)] := by kernel_rfl
theorem bd50 (ps : List (Nat × AV)) (K : AV → Prop) : aBuild Try.prog 50 ps K = aBld (tpl Try.prog 50) (tzc Try.prog 50) ps K := aBuild_eq (by rw [pl50]; rfl) ps K
theorem es50 : teqS Try.prog 50 = some [(0, .int), (1, .int), (2, .int)] := by kernel_rfl
theorem ni50 : tni Try.prog 50 = true := by kernel_rfl
theorem ta50 : tas Try.prog 50 = some (.agg [(.int .i64 0), (.int .i64 0), (.int .i64 0)]) := by kernel_rfl
theorem sz51 : tsz Try.prog 51 = some 2 := by kernel_rfl
theorem ag51 : tag Try.prog 51 = some (some 2) := by kernel_rfl
theorem zc51 : tzc Try.prog 51 = some [(.int .i64 0), (.int .i64 0)] := by kernel_rfl
theorem sr51 : tsrc Try.prog 51 = true := by kernel_rfl
theorem fd51_0 : tfd Try.prog 51 0 = some (0, 3) := by kernel_rfl
theorem fo51_0 : tfo Try.prog 51 0 = some 0 := by kernel_rfl
theorem fd51_1 : tfd Try.prog 51 1 = some (1, 3) := by kernel_rfl
theorem fo51_1 : tfo Try.prog 51 1 = some 1 := by kernel_rfl
theorem pl51 : tpl Try.prog 51 = some [(0, 1), (1, 1)] := by kernel_rfl
theorem bd51 (ps : List (Nat × AV)) (K : AV → Prop) : aBuild Try.prog 51 ps K = aBld (tpl Try.prog 51) (tzc Try.prog 51) ps K := aBuild_eq (by rw [pl51]; rfl) ps K
theorem sz52 : tsz Try.prog 52 = some 2 := by kernel_rfl
theorem ag52 : tag Try.prog 52 = some (some 2) := by kernel_rfl
theorem zc52 : tzc Try.prog 52 = some [(.int .i64 0), (.int .i64 0)] := by kernel_rfl
theorem sr52 : tsrc Try.prog 52 = true := by kernel_rfl
theorem fd52_0 : tfd Try.prog 52 0 = some (0, 3) := by kernel_rfl
theorem fo52_0 : tfo Try.prog 52 0 = some 0 := by kernel_rfl
theorem fd52_1 : tfd Try.prog 52 1 = some (1, 3) := by kernel_rfl
theorem fo52_1 : tfo Try.prog 52 1 = some 1 := by kernel_rfl
theorem pl52 : tpl Try.prog 52 = some [(0, 1), (1, 1)] := by kernel_rfl
theorem bd52 (ps : List (Nat × AV)) (K : AV → Prop) : aBuild Try.prog 52 ps K = aBld (tpl Try.prog 52) (tzc Try.prog 52) ps K := aBuild_eq (by rw [pl52]; rfl) ps K
theorem es52 : teqS Try.prog 52 = some [(0, .int), (1, .int)] := by kernel_rfl
theorem ni52 : tni Try.prog 52 = true := by kernel_rfl
theorem ta52 : tas Try.prog 52 = some (.agg [(.int .i64 0), (.int .i64 0)]) := by kernel_rfl
theorem sz54 : tsz Try.prog 54 = some 1 := by kernel_rfl
theorem ag54 : tag Try.prog 54 = some none := by kernel_rfl
theorem zc54 : tzc Try.prog 54 = some [.nilFunc] := by kernel_rfl
theorem sr54 : tsrc Try.prog 54 = true := by kernel_rfl
theorem sz55 : tsz Try.prog 55 = some 1 := by kernel_rfl
theorem ag55 : tag Try.prog 55 = some none := by kernel_rfl
theorem zc55 : tzc Try.prog 55 = some [.nilFunc] := by kernel_rfl
theorem sr55 : tsrc Try.prog 55 = true := by kernel_rfl
theorem sz56 : tsz Try.prog 56 = some 1 := by kernel_rfl
theorem ag56 : tag Try.prog 56 = some none := by kernel_rfl
theorem zc56 : tzc Try.prog 56 = some [.nilFunc] := by kernel_rfl
theorem sr56 : tsrc Try.prog 56 = true := by kernel_rfl
theorem sz57 : tsz Try.prog 57 = some 1 := by kernel_rfl
theorem ag57 : tag Try.prog 57 = some none := by kernel_rfl
theorem zc57 : tzc Try.prog 57 = some [(.int .u64 0)] := by kernel_rfl
theorem sr57 : tsrc Try.prog 57 = false := by kernel_rfl
theorem sz58 : tsz Try.prog 58 = some 1 := by kernel_rfl
theorem ag58 : tag Try.prog 58 = some none := by kernel_rfl
theorem zc58 : tzc Try.prog 58 = some [(.int .u64 0)] := by kernel_rfl
theorem sr58 : tsrc Try.prog 58 = false := by kernel_rfl
theorem ni58 : tni Try.prog 58 = true := by kernel_rfl
theorem ta58 : tas Try.prog 58 = some (.int .u64 0) := by kernel_rfl
theorem sz59 : tsz Try.prog 59 = some 1 := by kernel_rfl
theorem ag59 : tag Try.prog 59 = some none := by kernel_rfl
theorem zc59 : tzc Try.prog 59 = some [(.sl [] .full)] := by kernel_rfl
theorem sr59 : tsrc Try.prog 59 = true := by kernel_rfl
theorem el59 : tel Try.prog 59 = some (none, 1) := by kernel_rfl
theorem cu59 : tcut Try.prog 59 = some (some 1) := by kernel_rfl
theorem ap59 : tap Try.prog 59 = some (1, 8) := by kernel_rfl
theorem bs59 : tbs Try.prog 59 = some 1 := by kernel_rfl
theorem ms59 : tms Try.prog 59 = some (1, 8, [(.int .u64 0)], 58) := by kernel_rfl
theorem mm59 (l c : AV) (h : AH) (K : AV → AH → Prop) : aMakeSlice Try.prog 59 l c h K = aMkT (tms Try.prog 59) l c h K := aMakeSlice_eq (by rw [ms59]; rfl) l c K
theorem mc59 (x : AV) (h : AH) (K : AV → AH → Prop) : aClear Try.prog 59 x h K = aClT (tms Try.prog 59) x h K := aClear_eq (by rw [ms59]; rfl) x K
theorem mb59 (n : Nat) (ps : List (Nat × AV)) (h : AH) (K : AV → AH → Prop) : aBuildSliceM Try.prog 59 n ps h K = aBsM (tms Try.prog 59) n ps h K := aBuildSliceM_eq (by rw [ms59]; rfl) n ps K
theorem ma59 (s x : AV) (h : AH) (K : AV → AH → Prop) : aAppendM Try.prog 59 59 s x h K = aApM (tms Try.prog 59) s x h K := aAppendM_eq sr59 (by rw [ms59]; rfl) s x K
theorem ae59_59 (s x : AV) (h : AH) (K : AV → AH → Prop) : aAppend Try.prog 59 59 s x h K = aAp (tap Try.prog 59) s x h K := aAppend_eq sr59 s x K
theorem ln59 : tlen Try.prog 59 = some .sl := by kernel_rfl
theorem sz60 : tsz Try.prog 60 = some 5 := by kernel_rfl
theorem ag60 : tag Try.prog 60 = some (some 5) := by kernel_rfl
theorem zc60 : tzc Try.prog 60 = some [(.sl [] .full), (.int .u64 0), (.int .u64 0), (.sl [] .full), (.sl [] .full)] := by kernel_rfl
theorem sr60 : tsrc Try.prog 60 = true := by kernel_rfl
theorem fd60_0 : tfd Try.prog 60 0 = some (0, 22) := by kernel_rfl
theorem fo60_0 : tfo Try.prog 60 0 = some 0 := by kernel_rfl
theorem fd60_1 : tfd Try.prog 60 1 = some (1, 58) := by kernel_rfl
theorem fo60_1 : tfo Try.prog 60 1 = some 1 := by kernel_rfl
theorem fd60_2 : tfd Try.prog 60 2 = some (2, 58) := by kernel_rfl
theorem fo60_2 : tfo Try.prog 60 2 = some 2 := by kernel_rfl
theorem fd60_3 : tfd Try.prog 60 3 = some (3, 23) := by kernel_rfl
theorem fo60_3 : tfo Try.prog 60 3 = some 3 := by kernel_rfl
theorem fd60_4 : tfd Try.prog 60 4 = some (4, 59) := by kernel_rfl
theorem fo60_4 : tfo Try.prog 60 4 = some 4 := by kernel_rfl
theorem pl60 : tpl Try.prog 60 = some [(0, 1), (1, 1), (2, 1), (3, 1), (4, 1)] := by kernel_rfl
theorem bd60 (ps : List (Nat × AV)) (K : AV → Prop) : aBuild Try.prog 60 ps K = aBld (tpl Try.prog 60) (tzc Try.prog 60) ps K := aBuild_eq (by rw [pl60]; rfl) ps K
theorem sz61 : tsz Try.prog 61 = some 5 := by kernel_rfl
theorem ag61 : tag Try.prog 61 = some (some 5) := by kernel_rfl
theorem zc61 : tzc Try.prog 61 = some [(.sl [] .full), (.int .u64 0), (.int .u64 0), (.sl [] .full), (.sl [] .full)] := by kernel_rfl
theorem sr61 : tsrc Try.prog 61 = true := by kernel_rfl
theorem fd61_0 : tfd Try.prog 61 0 = some (0, 22) := by kernel_rfl
theorem fo61_0 : tfo Try.prog 61 0 = some 0 := by kernel_rfl
theorem fd61_1 : tfd Try.prog 61 1 = some (1, 58) := by kernel_rfl
theorem fo61_1 : tfo Try.prog 61 1 = some 1 := by kernel_rfl
theorem fd61_2 : tfd Try.prog 61 2 = some (2, 58) := by kernel_rfl
theorem fo61_2 : tfo Try.prog 61 2 = some 2 := by kernel_rfl
theorem fd61_3 : tfd Try.prog 61 3 = some (3, 23) := by kernel_rfl
theorem fo61_3 : tfo Try.prog 61 3 = some 3 := by kernel_rfl
theorem fd61_4 : tfd Try.prog 61 4 = some (4, 59) := by kernel_rfl
theorem fo61_4 : tfo Try.prog 61 4 = some 4 := by kernel_rfl
theorem pl61 : tpl Try.prog 61 = some [(0, 1), (1, 1), (2, 1), (3, 1), (4, 1)] := by kernel_rfl
theorem bd61 (ps : List (Nat × AV)) (K : AV → Prop) : aBuild Try.prog 61 ps K = aBld (tpl Try.prog 61) (tzc Try.prog 61) ps K := aBuild_eq (by rw [pl61]; rfl) ps K
theorem ni61 : tni Try.prog 61 = true := by kernel_rfl
theorem ta61 : tas Try.prog 61 = some (.agg [(.sl [] .full), (.int .u64 0), (.int .u64 0), (.sl [] .full), (.sl [] .full)]) := by kernel_rfl
theorem sz63 : tsz Try.prog 63 = some 1 := by kernel_rfl
theorem ag63 : tag Try.prog 63 = some none := by kernel_rfl
theorem zc63 : tzc Try.prog 63 = some [.nilFunc] := by kernel_rfl
theorem sr63 : tsrc Try.prog 63 = true := by kernel_rfl
theorem sz64 : tsz Try.prog 64 = some 1 := by kernel_rfl
theorem ag64 : tag Try.prog 64 = some none := by kernel_rfl
theorem zc64 : tzc Try.prog 64 = some [(.sl [] .full)] := by kernel_rfl
theorem sr64 : tsrc Try.prog 64 = true := by kernel_rfl
theorem el64 : tel Try.prog 64 = some (none, 3) := by kernel_rfl
theorem cu64 : tcut Try.prog 64 = some (some 3) := by kernel_rfl
theorem ap64 : tap Try.prog 64 = some (3, 24) := by kernel_rfl
theorem bs64 : tbs Try.prog 64 = some 3 := by kernel_rfl
theorem ms64 : tms Try.prog 64 = some (3, 24, [(.int .u64 0), (.int .i64 0), (.int .i64 0)], 67) := by kernel_rfl
theorem mm64 (l c : AV) (h : AH) (K : AV → AH → Prop) : aMakeSlice Try.prog 64 l c h K = aMkT (tms Try.prog 64) l c h K := aMakeSlice_eq (by rw [ms64]; rfl) l c K
theorem mc64 (x : AV) (h : AH) (K : AV → AH → Prop) : aClear Try.prog 64 x h K = aClT (tms Try.prog 64) x h K := aClear_eq (by rw [ms64]; rfl) x K
theorem mb64 (n : Nat) (ps : List (Nat × AV)) (h : AH) (K : AV → AH → Prop) : aBuildSliceM Try.prog 64 n ps h K = aBsM (tms Try.prog 64) n ps h K := aBuildSliceM_eq (by rw [ms64]; rfl) n ps K
theorem ma64 (s x : AV) (h : AH) (K : AV → AH → Prop) : aAppendM Try.prog 64 64 s x h K = aApM (tms Try.prog 64) s x h K := aAppendM_eq sr64 (by rw [ms64]; rfl) s x K
theorem ae64_64 (s x : AV) (h : AH) (K : AV → AH → Prop) : aAppend Try.prog 64 64 s x h K = aAp (tap Try.prog 64) s x h K := aAppend_eq sr64 s x K
theorem ln64 : tlen Try.prog 64 = some .sl := by kernel_rfl
theorem sz65 : tsz Try.prog 65 = some 1 := by kernel_rfl
theorem ag65 : tag Try.prog 65 = some none := by kernel_rfl
theorem zc65 : tzc Try.prog 65 = some [.nilFunc] := by kernel_rfl
theorem sr65 : tsrc Try.prog 65 = true := by kernel_rfl
theorem sz66 : tsz Try.prog 66 = some 3 := by kernel_rfl
theorem ag66 : tag Try.prog 66 = some (some 3) := by kernel_rfl
theorem zc66 : tzc Try.prog 66 = some [(.int .u64 0), (.int .i64 0), (.int .i64 0)] := by kernel_rfl
theorem sr66 : tsrc Try.prog 66 = true := by kernel_rfl
theorem fd66_0 : tfd Try.prog 66 0 = some (0, 58) := by kernel_rfl
theorem fo66_0 : tfo Try.prog 66 0 = some 0 := by kernel_rfl
theorem fd66_1 : tfd Try.prog 66 1 = some (1, 3) := by kernel_rfl
theorem fo66_1 : tfo Try.prog 66 1 = some 1 := by kernel_rfl
theorem fd66_2 : tfd Try.prog 66 2 = some (2, 3) := by kernel_rfl
theorem fo66_2 : tfo Try.prog 66 2 = some 2 := by kernel_rfl
theorem pl66 : tpl Try.prog 66 = some [(0, 1), (1, 1), (2, 1)] := by kernel_rfl
theorem bd66 (ps : List (Nat × AV)) (K : AV → Prop) : aBuild Try.prog 66 ps K = aBld (tpl Try.prog 66) (tzc Try.prog 66) ps K := aBuild_eq (by rw [pl66]; rfl) ps K
theorem sz67 : tsz Try.prog 67 = some 3 := by kernel_rfl
theorem ag67 : tag Try.prog 67 = some (some 3) := by kernel_rfl
theorem zc67 : tzc Try.prog 67 = some [(.int .u64 0), (.int .i64 0), (.int .i64 0)] := by kernel_rfl
theorem sr67 : tsrc Try.prog 67 = true := by kernel_rfl
theorem fd67_0 : tfd Try.prog 67 0 = some (0, 58) := by kernel_rfl
theorem fo67_0 : tfo Try.prog 67 0 = some 0 := by kernel_rfl
theorem fd67_1 : tfd Try.prog 67 1 = some (1, 3) := by kernel_rfl
theorem fo67_1 : tfo Try.prog 67 1 = some 1 := by kernel_rfl
theorem fd67_2 : tfd Try.prog 67 2 = some (2, 3) := by kernel_rfl
theorem fo67_2 : tfo Try.prog 67 2 = some 2 := by kernel_rfl
theorem pl67 : tpl Try.prog 67 = some [(0, 1), (1, 1), (2, 1)] := by kernel_rfl
theorem bd67 (ps : List (Nat × AV)) (K : AV → Prop) : aBuild Try.prog 67 ps K = aBld (tpl Try.prog 67) (tzc Try.prog 67) ps K := aBuild_eq (by rw [pl67]; rfl) ps K
theorem es67 : teqS Try.prog 67 = some [(0, .int), (1, .int), (2, .int)] := by kernel_rfl
theorem ni67 : tni Try.prog 67 = true := by kernel_rfl
theorem ta67 : tas Try.prog 67 = some (.agg [(.int .u64 0), (.int .i64 0), (.int .i64 0)]) := by kernel_rfl
theorem sz68 : tsz Try.prog 68 = some 1 := by kernel_rfl
theorem ag68 : tag Try.prog 68 = some none := by kernel_rfl
theorem zc68 : tzc Try.prog 68 = some [.nilFunc] := by kernel_rfl
theorem sr68 : tsrc Try.prog 68 = true := by kernel_rfl
theorem sz69 : tsz Try.prog 69 = some 1 := by kernel_rfl
theorem ag69 : tag Try.prog 69 = some none := by kernel_rfl
theorem zc69 : tzc Try.prog 69 = some [.nilFunc] := by kernel_rfl
theorem sr69 : tsrc Try.prog 69 = true := by kernel_rfl
theorem sz70 : tsz Try.prog 70 = some 1 := by kernel_rfl
theorem ag70 : tag Try.prog 70 = some none := by kernel_rfl
theorem zc70 : tzc Try.prog 70 = some [.nilFunc] := by kernel_rfl
theorem sr70 : tsrc Try.prog 70 = true := by kernel_rfl
theorem sz71 : tsz Try.prog 71 = some 4 := by kernel_rfl
theorem ag71 : tag Try.prog 71 = some (some 4) := by kernel_rfl
theorem zc71 : tzc Try.prog 71 = some [(.int .i64 0), (.int .i64 0), (.int .u64 0), (.int .i64 0)] := by kernel_rfl
theorem sr71 : tsrc Try.prog 71 = true := by kernel_rfl
theorem fd71_0 : tfd Try.prog 71 0 = some (0, 52) := by kernel_rfl
theorem fo71_0 : tfo Try.prog 71 0 = some 0 := by kernel_rfl
theorem fd71_1 : tfd Try.prog 71 1 = some (2, 58) := by kernel_rfl
theorem fo71_1 : tfo Try.prog 71 1 = some 2 := by kernel_rfl
theorem fd71_2 : tfd Try.prog 71 2 = some (3, 3) := by kernel_rfl
theorem fo71_2 : tfo Try.prog 71 2 = some 3 := by kernel_rfl
theorem pl71 : tpl Try.prog 71 = some [(0, 2), (2, 1), (3, 1)] := by kernel_rfl
theorem bd71 (ps : List (Nat × AV)) (K : AV → Prop) : aBuild Try.prog 71 ps K = aBld (tpl Try.prog 71) (tzc Try.prog 71) ps K := aBuild_eq (by rw [pl71]; rfl) ps K
theorem sz72 : tsz Try.prog 72 = some 4 := by kernel_rfl
theorem ag72 : tag Try.prog 72 = some (some 4) := by kernel_rfl
theorem zc72 : tzc Try.prog 72 = some [(.int .i64 0), (.int .i64 0), (.int .u64 0), (.int .i64 0)] := by kernel_rfl
theorem sr72 : tsrc Try.prog 72 = true := by kernel_rfl
theorem fd72_0 : tfd Try.prog 72 0 = some (0, 52) := by kernel_rfl
theorem fo72_0 : tfo Try.prog 72 0 = some 0 := by kernel_rfl
theorem fd72_1 : tfd Try.prog 72 1 = some (2, 58) := by kernel_rfl
theorem fo72_1 : tfo Try.prog 72 1 = some 2 := by kernel_rfl
theorem fd72_2 : tfd Try.prog 72 2 = some (3, 3) := by kernel_rfl
theorem fo72_2 : tfo Try.prog 72 2 = some 3 := by kernel_rfl
theorem pl72 : tpl Try.prog 72 = some [(0, 2), (2, 1), (3, 1)] := by kernel_rfl
theorem bd72 (ps : List (Nat × AV)) (K : AV → Prop) : aBuild Try.prog 72 ps K = aBld (tpl Try.prog 72) (tzc Try.prog 72) ps K := aBuild_eq (by rw [pl72]; rfl) ps K
theorem ni72 : tni Try.prog 72 = true := by kernel_rfl
theorem ta72 : tas Try.prog 72 = some (.agg [(.int .i64 0), (.int .i64 0), (.int .u64 0), (.int .i64 0)]) := by kernel_rfl
theorem sz73 : tsz Try.prog 73 = some 1 := by kernel_rfl
theorem ag73 : tag Try.prog 73 = some none := by kernel_rfl
theorem zc73 : tzc Try.prog 73 = some [(.sl [] .full)] := by kernel_rfl
theorem sr73 : tsrc Try.prog 73 = true := by kernel_rfl
theorem el73 : tel Try.prog 73 = some (none, 2) := by kernel_rfl
theorem cu73 : tcut Try.prog 73 = some (some 2) := by kernel_rfl
theorem ap73 : tap Try.prog 73 = some (2, 16) := by kernel_rfl
theorem bs73 : tbs Try.prog 73 = some 2 := by kernel_rfl
theorem ms73 : tms Try.prog 73 = some (2, 16, [(.int .i64 0), (.int .i64 0)], 75) := by kernel_rfl
theorem mm73 (l c : AV) (h : AH) (K : AV → AH → Prop) : aMakeSlice Try.prog 73 l c h K = aMkT (tms Try.prog 73) l c h K := aMakeSlice_eq (by rw [ms73]; rfl) l c K
theorem mc73 (x : AV) (h : AH) (K : AV → AH → Prop) : aClear Try.prog 73 x h K = aClT (tms Try.prog 73) x h K := aClear_eq (by rw [ms73]; rfl) x K
theorem mb73 (n : Nat) (ps : List (Nat × AV)) (h : AH) (K : AV → AH → Prop) : aBuildSliceM Try.prog 73 n ps h K = aBsM (tms Try.prog 73) n ps h K := aBuildSliceM_eq (by rw [ms73]; rfl) n ps K
theorem ma73 (s x : AV) (h : AH) (K : AV → AH → Prop) : aAppendM Try.prog 73 73 s x h K = aApM (tms Try.prog 73) s x h K := aAppendM_eq sr73 (by rw [ms73]; rfl) s x K
theorem ae73_73 (s x : AV) (h : AH) (K : AV → AH → Prop) : aAppend Try.prog 73 73 s x h K = aAp (tap Try.prog 73) s x h K := aAppend_eq sr73 s x K
theorem ln73 : tlen Try.prog 73 = some .sl := by kernel_rfl
theorem sz74 : tsz Try.prog 74 = some 1 := by kernel_rfl
theorem ag74 : tag Try.prog 74 = some none := by kernel_rfl
theorem zc74 : tzc Try.prog 74 = some [.nilFunc] := by kernel_rfl
theorem sr74 : tsrc Try.prog 74 = true := by kernel_rfl
theorem sz75 : tsz Try.prog 75 = some 2 := by kernel_rfl
theorem ag75 : tag Try.prog 75 = some (some 2) := by kernel_rfl
theorem zc75 : tzc Try.prog 75 = some [(.int .i64 0), (.int .i64 0)] := by kernel_rfl
theorem sr75 : tsrc Try.prog 75 = true := by kernel_rfl
theorem es75 : teqS Try.prog 75 = none := by kernel_rfl
theorem el75 : tel Try.prog 75 = some (some 2, 1) := by kernel_rfl
theorem ln75 : tlen Try.prog 75 = some (.arr 2) := by kernel_rfl
theorem sz76 : tsz Try.prog 76 = some 1 := by kernel_rfl
theorem ag76 : tag Try.prog 76 = some none := by kernel_rfl
theorem zc76 : tzc Try.prog 76 = some [.nilFunc] := by kernel_rfl
theorem sr76 : tsrc Try.prog 76 = true := by kernel_rfl
theorem sz77 : tsz Try.prog 77 = some 1 := by kernel_rfl
theorem ag77 : tag Try.prog 77 = some none := by kernel_rfl
theorem zc77 : tzc Try.prog 77 = some [.nilFunc] := by kernel_rfl
theorem sr77 : tsrc Try.prog 77 = true := by kernel_rfl
theorem sz79 : tsz Try.prog 79 = some 1 := by kernel_rfl
theorem ag79 : tag Try.prog 79 = some none := by kernel_rfl
theorem zc79 : tzc Try.prog 79 = some [.nilFunc] := by kernel_rfl
theorem sr79 : tsrc Try.prog 79 = true := by kernel_rfl
theorem sz80 : tsz Try.prog 80 = some 1 := by kernel_rfl
theorem ag80 : tag Try.prog 80 = some none := by kernel_rfl
theorem zc80 : tzc Try.prog 80 = some [.nilFunc] := by kernel_rfl
theorem sr80 : tsrc Try.prog 80 = true := by kernel_rfl
theorem sz81 : tsz Try.prog 81 = some 1 := by kernel_rfl
theorem ag81 : tag Try.prog 81 = some none := by kernel_rfl
theorem zc81 : tzc Try.prog 81 = some [.nilFunc] := by kernel_rfl
theorem sr81 : tsrc Try.prog 81 = true := by kernel_rfl
theorem sz82 : tsz Try.prog 82 = some 1 := by kernel_rfl
theorem ag82 : tag Try.prog 82 = some none := by kernel_rfl
theorem zc82 : tzc Try.prog 82 = some [.nilFunc] := by kernel_rfl
theorem sr82 : tsrc Try.prog 82 = true := by kernel_rfl
theorem sz83 : tsz Try.prog 83 = some 1 := by kernel_rfl
theorem ag83 : tag Try.prog 83 = some none := by kernel_rfl
theorem zc83 : tzc Try.prog 83 = some [.nilFunc] := by kernel_rfl
theorem sr83 : tsrc Try.prog 83 = true := by kernel_rfl
theorem sz84 : tsz Try.prog 84 = some 1 := by kernel_rfl
theorem ag84 : tag Try.prog 84 = some none := by kernel_rfl
theorem zc84 : tzc Try.prog 84 = some [.nilFunc] := by kernel_rfl
theorem sr84 : tsrc Try.prog 84 = true := by kernel_rfl
theorem sz85 : tsz Try.prog 85 = some 1 := by kernel_rfl
theorem ag85 : tag Try.prog 85 = some none := by kernel_rfl
theorem zc85 : tzc Try.prog 85 = some [.nilFunc] := by kernel_rfl
theorem sr85 : tsrc Try.prog 85 = true := by kernel_rfl
theorem sz86 : tsz Try.prog 86 = some 1 := by kernel_rfl
theorem ag86 : tag Try.prog 86 = some none := by kernel_rfl
theorem zc86 : tzc Try.prog 86 = some [.nilFunc] := by kernel_rfl
theorem sr86 : tsrc Try.prog 86 = true := by kernel_rfl
theorem sz87 : tsz Try.prog 87 = some 1 := by kernel_rfl
theorem ag87 : tag Try.prog 87 = some none := by kernel_rfl
theorem zc87 : tzc Try.prog 87 = some [.nilFunc] := by kernel_rfl
theorem sr87 : tsrc Try.prog 87 = true := by kernel_rfl
theorem sz88 : tsz Try.prog 88 = some 1 := by kernel_rfl
theorem ag88 : tag Try.prog 88 = some none := by kernel_rfl
theorem zc88 : tzc Try.prog 88 = some [(.ptr none)] := by kernel_rfl
theorem sr88 : tsrc Try.prog 88 = true := by kernel_rfl
theorem ni88 : tni Try.prog 88 = true := by kernel_rfl
theorem ta88 : tas Try.prog 88 = some (.ptr none) := by kernel_rfl
theorem sz90 : tsz Try.prog 90 = some 1 := by kernel_rfl
theorem ag90 : tag Try.prog 90 = some none := by kernel_rfl
theorem zc90 : tzc Try.prog 90 = some [.nilFunc] := by kernel_rfl
theorem sr90 : tsrc Try.prog 90 = true := by kernel_rfl
theorem sz91 : tsz Try.prog 91 = some 1 := by kernel_rfl
theorem ag91 : tag Try.prog 91 = some none := by kernel_rfl
theorem zc91 : tzc Try.prog 91 = some [.nilFunc] := by kernel_rfl
theorem sr91 : tsrc Try.prog 91 = true := by kernel_rfl
theorem sz92 : tsz Try.prog 92 = some 1 := by kernel_rfl
theorem ag92 : tag Try.prog 92 = some none := by kernel_rfl
theorem zc92 : tzc Try.prog 92 = some [(.ptr none)] := by kernel_rfl
theorem sr92 : tsrc Try.prog 92 = true := by kernel_rfl
theorem ni92 : tni Try.prog 92 = true := by kernel_rfl
theorem ta92 : tas Try.prog 92 = some (.ptr none) := by kernel_rfl
theorem sz93 : tsz Try.prog 93 = some 1 := by kernel_rfl
theorem ag93 : tag Try.prog 93 = some none := by kernel_rfl
theorem zc93 : tzc Try.prog 93 = some [(.ptr none)] := by kernel_rfl
theorem sr93 : tsrc Try.prog 93 = true := by kernel_rfl
theorem ni93 : tni Try.prog 93 = true := by kernel_rfl
theorem ta93 : tas Try.prog 93 = some (.ptr none) := by kernel_rfl
theorem sz94 : tsz Try.prog 94 = some 1 := by kernel_rfl
theorem ag94 : tag Try.prog 94 = some none := by kernel_rfl
theorem zc94 : tzc Try.prog 94 = some [(.sl [] .full)] := by kernel_rfl
theorem sr94 : tsrc Try.prog 94 = true := by kernel_rfl
theorem el94 : tel Try.prog 94 = some (none, 3) := by kernel_rfl
theorem cu94 : tcut Try.prog 94 = some (some 3) := by kernel_rfl
theorem ap94 : tap Try.prog 94 = some (3, 24) := by kernel_rfl
theorem bs94 : tbs Try.prog 94 = some 3 := by kernel_rfl
theorem ms94 : tms Try.prog 94 = some (3, 24, [(.int .u64 0), (.int .i64 0), (.int .i64 0)], 67) := by kernel_rfl
theorem mm94 (l c : AV) (h : AH) (K : AV → AH → Prop) : aMakeSlice Try.prog 94 l c h K = aMkT (tms Try.prog 94) l c h K := aMakeSlice_eq (by rw [ms94]; rfl) l c K
theorem mc94 (x : AV) (h : AH) (K : AV → AH → Prop) : aClear Try.prog 94 x h K = aClT (tms Try.prog 94) x h K := aClear_eq (by rw [ms94]; rfl) x K
theorem mb94 (n : Nat) (ps : List (Nat × AV)) (h : AH) (K : AV → AH → Prop) : aBuildSliceM Try.prog 94 n ps h K = aBsM (tms Try.prog 94) n ps h K := aBuildSliceM_eq (by rw [ms94]; rfl) n ps K
theorem ma94 (s x : AV) (h : AH) (K : AV → AH → Prop) : aAppendM Try.prog 94 94 s x h K = aApM (tms Try.prog 94) s x h K := aAppendM_eq sr94 (by rw [ms94]; rfl) s x K
theorem ae94_94 (s x : AV) (h : AH) (K : AV → AH → Prop) : aAppend Try.prog 94 94 s x h K = aAp (tap Try.prog 94) s x h K := aAppend_eq sr94 s x K
theorem ln94 : tlen Try.prog 94 = some .sl := by kernel_rfl
theorem sz95 : tsz Try.prog 95 = some 1 := by kernel_rfl
theorem ag95 : tag Try.prog 95 = some none := by kernel_rfl
theorem zc95 : tzc Try.prog 95 = some [.nilFunc] := by kernel_rfl
theorem sr95 : tsrc Try.prog 95 = true := by kernel_rfl
theorem sz96 : tsz Try.prog 96 = some 1 := by kernel_rfl
theorem ag96 : tag Try.prog 96 = some none := by kernel_rfl
theorem zc96 : tzc Try.prog 96 = some [.nilFunc] := by kernel_rfl
theorem sr96 : tsrc Try.prog 96 = true := by kernel_rfl
theorem sz97 : tsz Try.prog 97 = some 1 := by kernel_rfl
theorem ag97 : tag Try.prog 97 = some none := by kernel_rfl
theorem zc97 : tzc Try.prog 97 = some [.nilFunc] := by kernel_rfl
theorem sr97 : tsrc Try.prog 97 = true := by kernel_rfl
theorem sz98 : tsz Try.prog 98 = some 1 := by kernel_rfl
theorem ag98 : tag Try.prog 98 = some none := by kernel_rfl
theorem zc98 : tzc Try.prog 98 = some [.nilFunc] := by kernel_rfl
theorem sr98 : tsrc Try.prog 98 = true := by kernel_rfl
theorem sz99 : tsz Try.prog 99 = some 1 := by kernel_rfl
theorem ag99 : tag Try.prog 99 = some none := by kernel_rfl
theorem zc99 : tzc Try.prog 99 = some [.nilFunc] := by kernel_rfl
theorem sr99 : tsrc Try.prog 99 = true := by kernel_rfl
theorem sz100 : tsz Try.prog 100 = some 1 := by kernel_rfl
theorem ag100 : tag Try.prog 100 = some none := by kernel_rfl
theorem zc100 : tzc Try.prog 100 = some [.nilFunc] := by kernel_rfl
theorem sr100 : tsrc Try.prog 100 = true := by kernel_rfl
theorem sz101 : tsz Try.prog 101 = some 1 := by kernel_rfl
theorem ag101 : tag Try.prog 101 = some none := by kernel_rfl
theorem zc101 : tzc Try.prog 101 = some [.nilFunc] := by kernel_rfl
theorem sr101 : tsrc Try.prog 101 = true := by kernel_rfl
theorem sz102 : tsz Try.prog 102 = some 1 := by kernel_rfl
theorem ag102 : tag Try.prog 102 = some none := by kernel_rfl
theorem zc102 : tzc Try.prog 102 = some [.nilFunc] := by kernel_rfl
theorem sr102 : tsrc Try.prog 102 = true := by kernel_rfl
theorem sz103 : tsz Try.prog 103 = some 1 := by kernel_rfl
theorem ag103 : tag Try.prog 103 = some none := by kernel_rfl
theorem zc103 : tzc Try.prog 103 = some [.nilFunc] := by kernel_rfl
theorem sr103 : tsrc Try.prog 103 = true := by kernel_rfl
theorem sz104 : tsz Try.prog 104 = some 1 := by kernel_rfl
theorem ag104 : tag Try.prog 104 = some none := by kernel_rfl
theorem zc104 : tzc Try.prog 104 = some [.nilFunc] := by kernel_rfl
theorem sr104 : tsrc Try.prog 104 = true := by kernel_rfl
theorem sz105 : tsz Try.prog 105 = some 1 := by kernel_rfl
theorem ag105 : tag Try.prog 105 = some none := by kernel_rfl
theorem zc105 : tzc Try.prog 105 = some [.nilFunc] := by kernel_rfl
theorem sr105 : tsrc Try.prog 105 = true := by kernel_rfl
theorem sz106 : tsz Try.prog 106 = some 1 := by kernel_rfl
theorem ag106 : tag Try.prog 106 = some none := by kernel_rfl
theorem zc106 : tzc Try.prog 106 = some [.nilFunc] := by kernel_rfl
theorem sr106 : tsrc Try.prog 106 = true := by kernel_rfl
theorem sz107 : tsz Try.prog 107 = some 1 := by kernel_rfl
theorem ag107 : tag Try.prog 107 = some none := by kernel_rfl
theorem zc107 : tzc Try.prog 107 = some [.nilFunc] := by kernel_rfl
theorem sr107 : tsrc Try.prog 107 = true := by kernel_rfl
theorem sz108 : tsz Try.prog 108 = some 1 := by kernel_rfl
theorem ag108 : tag Try.prog 108 = some none := by kernel_rfl
theorem zc108 : tzc Try.prog 108 = some [.nilIface] := by kernel_rfl
theorem sr108 : tsrc Try.prog 108 = true := by kernel_rfl
theorem if108 : tifc Try.prog 108 = true := by kernel_rfl
theorem sz109 : tsz Try.prog 109 = some 1 := by kernel_rfl
theorem ag109 : tag Try.prog 109 = some none := by kernel_rfl
theorem zc109 : tzc Try.prog 109 = some [.nilIface] := by kernel_rfl
theorem sr109 : tsrc Try.prog 109 = true := by kernel_rfl
theorem if109 : tifc Try.prog 109 = true := by kernel_rfl
theorem sz110 : tsz Try.prog 110 = some 1 := by kernel_rfl
theorem ag110 : tag Try.prog 110 = some none := by kernel_rfl
theorem zc110 : tzc Try.prog 110 = some [.nilFunc] := by kernel_rfl
theorem sr110 : tsrc Try.prog 110 = true := by kernel_rfl
theorem sz111 : tsz Try.prog 111 = some 1 := by kernel_rfl
theorem ag111 : tag Try.prog 111 = some none := by kernel_rfl
theorem zc111 : tzc Try.prog 111 = some [.nilFunc] := by kernel_rfl
theorem sr111 : tsrc Try.prog 111 = true := by kernel_rfl
theorem sz112 : tsz Try.prog 112 = some 1 := by kernel_rfl
theorem ag112 : tag Try.prog 112 = some none := by kernel_rfl
theorem zc112 : tzc Try.prog 112 = some [.nilFunc] := by kernel_rfl
theorem sr112 : tsrc Try.prog 112 = true := by kernel_rfl
theorem sz113 : tsz Try.prog 113 = some 1 := by kernel_rfl
theorem ag113 : tag Try.prog 113 = some none := by kernel_rfl
theorem zc113 : tzc Try.prog 113 = some [.nilFunc] := by kernel_rfl
theorem sr113 : tsrc Try.prog 113 = true := by kernel_rfl
theorem sz114 : tsz Try.prog 114 = some 1 := by kernel_rfl
theorem ag114 : tag Try.prog 114 = some none := by kernel_rfl
theorem zc114 : tzc Try.prog 114 = some [.nilFunc] := by kernel_rfl
theorem sr114 : tsrc Try.prog 114 = true := by kernel_rfl
theorem sz115 : tsz Try.prog 115 = some 1 := by kernel_rfl
theorem ag115 : tag Try.prog 115 = some none := by kernel_rfl
theorem zc115 : tzc Try.prog 115 = some [.nilFunc] := by kernel_rfl
theorem sr115 : tsrc Try.prog 115 = true := by kernel_rfl
theorem sz116 : tsz Try.prog 116 = some 1 := by kernel_rfl
theorem ag116 : tag Try.prog 116 = some none := by kernel_rfl
theorem zc116 : tzc Try.prog 116 = some [.nilFunc] := by kernel_rfl
theorem sr116 : tsrc Try.prog 116 = true := by kernel_rfl
theorem sz117 : tsz Try.prog 117 = some 1 := by kernel_rfl
theorem ag117 : tag Try.prog 117 = some none := by kernel_rfl
theorem zc117 : tzc Try.prog 117 = some [.nilFunc] := by kernel_rfl
theorem sr117 : tsrc Try.prog 117 = true := by kernel_rfl
theorem sz118 : tsz Try.prog 118 = some 1 := by kernel_rfl
theorem ag118 : tag Try.prog 118 = some none := by kernel_rfl
theorem zc118 : tzc Try.prog 118 = some [(.int .u32 0)] := by kernel_rfl
theorem sr118 : tsrc Try.prog 118 = false := by kernel_rfl
theorem sz119 : tsz Try.prog 119 = some 1 := by kernel_rfl
theorem ag119 : tag Try.prog 119 = some none := by kernel_rfl
theorem zc119 : tzc Try.prog 119 = some [.nilFunc] := by kernel_rfl
theorem sr119 : tsrc Try.prog 119 = true := by kernel_rfl
theorem sz120 : tsz Try.prog 120 = some 1 := by kernel_rfl
theorem ag120 : tag Try.prog 120 = some none := by kernel_rfl
theorem zc120 : tzc Try.prog 120 = some [(.int .u64 0)] := by kernel_rfl
theorem sr120 : tsrc Try.prog 120 = false := by kernel_rfl
theorem sz121 : tsz Try.prog 121 = some 1 := by kernel_rfl
theorem ag121 : tag Try.prog 121 = some none := by kernel_rfl
theorem zc121 : tzc Try.prog 121 = some [.nilFunc] := by kernel_rfl
theorem sr121 : tsrc Try.prog 121 = true := by kernel_rfl
theorem sz122 : tsz Try.prog 122 = some 4 := by kernel_rfl
theorem ag122 : tag Try.prog 122 = some (some 4) := by kernel_rfl
theorem zc122 : tzc Try.prog 122 = some [(.ptr none), (.ptr none), (.ptr none), (.str ⟨#[]⟩)] := by kernel_rfl
theorem sr122 : tsrc Try.prog 122 = true := by kernel_rfl
theorem fd122_0 : tfd Try.prog 122 0 = some (0, 17) := by kernel_rfl
theorem fo122_0 : tfo Try.prog 122 0 = some 0 := by kernel_rfl
theorem fd122_1 : tfd Try.prog 122 1 = some (1, 17) := by kernel_rfl
theorem fo122_1 : tfo Try.prog 122 1 = some 1 := by kernel_rfl
theorem fd122_2 : tfd Try.prog 122 2 = some (2, 17) := by kernel_rfl
theorem fo122_2 : tfo Try.prog 122 2 = some 2 := by kernel_rfl
theorem fd122_3 : tfd Try.prog 122 3 = some (3, 9) := by kernel_rfl
theorem fo122_3 : tfo Try.prog 122 3 = some 3 := by kernel_rfl
theorem pl122 : tpl Try.prog 122 = some [(0, 1), (1, 1), (2, 1), (3, 1)] := by kernel_rfl
theorem bd122 (ps : List (Nat × AV)) (K : AV → Prop) : aBuild Try.prog 122 ps K = aBld (tpl Try.prog 122) (tzc Try.prog 122) ps K := aBuild_eq (by rw [pl122]; rfl) ps K
theorem sz123 : tsz Try.prog 123 = some 4 := by kernel_rfl
theorem ag123 : tag Try.prog 123 = some (some 4) := by kernel_rfl
theorem zc123 : tzc Try.prog 123 = some [(.ptr none), (.ptr none), (.ptr none), (.str ⟨#[]⟩)] := by kernel_rfl
theorem sr123 : tsrc Try.prog 123 = true := by kernel_rfl
theorem fd123_0 : tfd Try.prog 123 0 = some (0, 17) := by kernel_rfl
theorem fo123_0 : tfo Try.prog 123 0 = some 0 := by kernel_rfl
theorem fd123_1 : tfd Try.prog 123 1 = some (1, 17) := by kernel_rfl
theorem fo123_1 : tfo Try.prog 123 1 = some 1 := by kernel_rfl
theorem fd123_2 : tfd Try.prog 123 2 = some (2, 17) := by kernel_rfl
theorem fo123_2 : tfo Try.prog 123 2 = some 2 := by kernel_rfl
theorem fd123_3 : tfd Try.prog 123 3 = some (3, 9) := by kernel_rfl
theorem fo123_3 : tfo Try.prog 123 3 = some 3 := by kernel_rfl
theorem pl123 : tpl Try.prog 123 = some [(0, 1), (1, 1), (2, 1), (3, 1)] := by kernel_rfl
theorem bd123 (ps : List (Nat × AV)) (K : AV → Prop) : aBuild Try.prog 123 ps K = aBld (tpl Try.prog 123) (tzc Try.prog 123) ps K := aBuild_eq (by rw [pl123]; rfl) ps K
theorem ni123 : tni Try.prog 123 = true := by kernel_rfl
theorem ta123 : tas Try.prog 123 = some (.agg [(.ptr none), (.ptr none), (.ptr none), (.str ⟨#[]⟩)]) := by kernel_rfl
theorem sz124 : tsz Try.prog 124 = some 0 := by kernel_rfl
theorem ag124 : tag Try.prog 124 = some (some 0) := by kernel_rfl
theorem zc124 : tzc Try.prog 124 = some [] := by kernel_rfl
theorem sr124 : tsrc Try.prog 124 = true := by kernel_rfl
theorem es124 : teqS Try.prog 124 = none := by kernel_rfl
theorem el124 : tel Try.prog 124 = some (some 0, 1) := by kernel_rfl
theorem ln124 : tlen Try.prog 124 = some (.arr 0) := by kernel_rfl
theorem sz125 : tsz Try.prog 125 = some 0 := by kernel_rfl
theorem ag125 : tag Try.prog 125 = some (some 0) := by kernel_rfl
theorem zc125 : tzc Try.prog 125 = some [] := by kernel_rfl
theorem sr125 : tsrc Try.prog 125 = true := by kernel_rfl
theorem fd125_0 : tfd Try.prog 125 0 = some (0, 124) := by kernel_rfl
theorem pl125 : tpl Try.prog 125 = some [(0, 0)] := by kernel_rfl
theorem bd125 (ps : List (Nat × AV)) (K : AV → Prop) : aBuild Try.prog 125 ps K = aBld (tpl Try.prog 125) (tzc Try.prog 125) ps K := aBuild_eq (by rw [pl125]; rfl) ps K
theorem sz126 : tsz Try.prog 126 = some 0 := by kernel_rfl
theorem ag126 : tag Try.prog 126 = some (some 0) := by kernel_rfl
theorem zc126 : tzc Try.prog 126 = some [] := by kernel_rfl
theorem sr126 : tsrc Try.prog 126 = true := by kernel_rfl
theorem fd126_0 : tfd Try.prog 126 0 = some (0, 124) := by kernel_rfl
theorem pl126 : tpl Try.prog 126 = some [(0, 0)] := by kernel_rfl
theorem bd126 (ps : List (Nat × AV)) (K : AV → Prop) : aBuild Try.prog 126 ps K = aBld (tpl Try.prog 126) (tzc Try.prog 126) ps K := aBuild_eq (by rw [pl126]; rfl) ps K
theorem ni126 : tni Try.prog 126 = true := by kernel_rfl
theorem ta126 : tas Try.prog 126 = some (.agg []) := by kernel_rfl
theorem sz127 : tsz Try.prog 127 = some 1 := by kernel_rfl
theorem ag127 : tag Try.prog 127 = some none := by kernel_rfl
theorem zc127 : tzc Try.prog 127 = some [(.int .u8 0)] := by kernel_rfl
theorem sr127 : tsrc Try.prog 127 = false := by kernel_rfl
theorem ni127 : tni Try.prog 127 = true := by kernel_rfl
theorem ta127 : tas Try.prog 127 = some (.int .u8 0) := by kernel_rfl
theorem sz128 : tsz Try.prog 128 = some 1 := by kernel_rfl
theorem ag128 : tag Try.prog 128 = some none := by kernel_rfl
theorem zc128 : tzc Try.prog 128 = some [(.int .u8 0)] := by kernel_rfl
theorem sr128 : tsrc Try.prog 128 = false := by kernel_rfl
theorem ni128 : tni Try.prog 128 = true := by kernel_rfl
theorem ta128 : tas Try.prog 128 = some (.int .u8 0) := by kernel_rfl
theorem sz129 : tsz Try.prog 129 = some 1 := by kernel_rfl
theorem ag129 : tag Try.prog 129 = some none := by kernel_rfl
theorem zc129 : tzc Try.prog 129 = some [.nilFunc] := by kernel_rfl
theorem sr129 : tsrc Try.prog 129 = true := by kernel_rfl
theorem sz130 : tsz Try.prog 130 = some 1 := by kernel_rfl
theorem ag130 : tag Try.prog 130 = some none := by kernel_rfl
theorem zc130 : tzc Try.prog 130 = some [(.ptr none)] := by kernel_rfl
theorem sr130 : tsrc Try.prog 130 = true := by kernel_rfl
theorem ni130 : tni Try.prog 130 = true := by kernel_rfl
theorem ta130 : tas Try.prog 130 = some (.ptr none) := by kernel_rfl
theorem sz131 : tsz Try.prog 131 = some 1 := by kernel_rfl
theorem ag131 : tag Try.prog 131 = some none := by kernel_rfl
theorem zc131 : tzc Try.prog 131 = some [(.int .i32 0)] := by kernel_rfl
theorem sr131 : tsrc Try.prog 131 = false := by kernel_rfl
theorem ni131 : tni Try.prog 131 = true := by kernel_rfl
theorem ta131 : tas Try.prog 131 = some (.int .i32 0) := by kernel_rfl
theorem sz132 : tsz Try.prog 132 = some 1 := by kernel_rfl
theorem ag132 : tag Try.prog 132 = some none := by kernel_rfl
theorem zc132 : tzc Try.prog 132 = some [(.int .i32 0)] := by kernel_rfl
theorem sr132 : tsrc Try.prog 132 = false := by kernel_rfl
theorem ni132 : tni Try.prog 132 = true := by kernel_rfl
theorem ta132 : tas Try.prog 132 = some (.int .i32 0) := by kernel_rfl
theorem sz133 : tsz Try.prog 133 = some 11 := by kernel_rfl
theorem ag133 : tag Try.prog 133 = some (some 11) := by kernel_rfl
theorem zc133 : tzc Try.prog 133 = some [(.int .u64 0), (.int .u64 0), (.int .u32 0), (.int .u8 0), (.int .u8 0), (.int .u8 0), (.int .u8 0), .nilFunc, (.ptr none), (.int .i32 0), (.int .i32 0)] := by kernel_rfl
theorem sr133 : tsrc Try.prog 133 = true := by kernel_rfl
theorem fd133_0 : tfd Try.prog 133 0 = some (0, 12) := by kernel_rfl
theorem fo133_0 : tfo Try.prog 133 0 = some 0 := by kernel_rfl
theorem fd133_1 : tfd Try.prog 133 1 = some (1, 12) := by kernel_rfl
theorem fo133_1 : tfo Try.prog 133 1 = some 1 := by kernel_rfl
theorem fd133_2 : tfd Try.prog 133 2 = some (2, 118) := by kernel_rfl
theorem fo133_2 : tfo Try.prog 133 2 = some 2 := by kernel_rfl
theorem fd133_3 : tfd Try.prog 133 3 = some (3, 127) := by kernel_rfl
theorem fo133_3 : tfo Try.prog 133 3 = some 3 := by kernel_rfl
theorem fd133_4 : tfd Try.prog 133 4 = some (4, 5) := by kernel_rfl
theorem fo133_4 : tfo Try.prog 133 4 = some 4 := by kernel_rfl
theorem fd133_5 : tfd Try.prog 133 5 = some (5, 5) := by kernel_rfl
theorem fo133_5 : tfo Try.prog 133 5 = some 5 := by kernel_rfl
theorem fd133_6 : tfd Try.prog 133 6 = some (6, 128) := by kernel_rfl
theorem fo133_6 : tfo Try.prog 133 6 = some 6 := by kernel_rfl
theorem fd133_7 : tfd Try.prog 133 7 = some (7, 129) := by kernel_rfl
theorem fo133_7 : tfo Try.prog 133 7 = some 7 := by kernel_rfl
theorem fd133_8 : tfd Try.prog 133 8 = some (8, 130) := by kernel_rfl
theorem fo133_8 : tfo Try.prog 133 8 = some 8 := by kernel_rfl
theorem fd133_9 : tfd Try.prog 133 9 = some (9, 131) := by kernel_rfl
theorem fo133_9 : tfo Try.prog 133 9 = some 9 := by kernel_rfl
theorem fd133_10 : tfd Try.prog 133 10 = some (10, 132) := by kernel_rfl
theorem fo133_10 : tfo Try.prog 133 10 = some 10 := by kernel_rfl
theorem pl133 : tpl Try.prog 133 = some [(0, 1), (1, 1), (2, 1), (3, 1), (4, 1), (5, 1), (6, 1), (7, 1), (8, 1), (9, 1), (10, 1)] := by kernel_rfl
theorem bd133 (ps : List (Nat × AV)) (K : AV → Prop) : aBuild Try.prog 133 ps K = aBld (tpl Try.prog 133) (tzc Try.prog 133) ps K := aBuild_eq (by rw [pl133]; rfl) ps K
theorem sz134 : tsz Try.prog 134 = some 11 := by kernel_rfl
theorem ag134 : tag Try.prog 134 = some (some 11) := by kernel_rfl
theorem zc134 : tzc Try.prog 134 = some [(.int .u64 0), (.int .u64 0), (.int .u32 0), (.int .u8 0), (.int .u8 0), (.int .u8 0), (.int .u8 0), .nilFunc, (.ptr none), (.int .i32 0), (.int .i32 0)] := by kernel_rfl
theorem sr134 : tsrc Try.prog 134 = true := by kernel_rfl
theorem fd134_0 : tfd Try.prog 134 0 = some (0, 12) := by kernel_rfl
theorem fo134_0 : tfo Try.prog 134 0 = some 0 := by kernel_rfl
theorem fd134_1 : tfd Try.prog 134 1 = some (1, 12) := by kernel_rfl
theorem fo134_1 : tfo Try.prog 134 1 = some 1 := by kernel_rfl
theorem fd134_2 : tfd Try.prog 134 2 = some (2, 118) := by kernel_rfl
theorem fo134_2 : tfo Try.prog 134 2 = some 2 := by kernel_rfl
theorem fd134_3 : tfd Try.prog 134 3 = some (3, 127) := by kernel_rfl
theorem fo134_3 : tfo Try.prog 134 3 = some 3 := by kernel_rfl
theorem fd134_4 : tfd Try.prog 134 4 = some (4, 5) := by kernel_rfl
theorem fo134_4 : tfo Try.prog 134 4 = some 4 := by kernel_rfl
theorem fd134_5 : tfd Try.prog 134 5 = some (5, 5) := by kernel_rfl
theorem fo134_5 : tfo Try.prog 134 5 = some 5 := by kernel_rfl
theorem fd134_6 : tfd Try.prog 134 6 = some (6, 128) := by kernel_rfl
theorem fo134_6 : tfo Try.prog 134 6 = some 6 := by kernel_rfl
theorem fd134_7 : tfd Try.prog 134 7 = some (7, 129) := by kernel_rfl
theorem fo134_7 : tfo Try.prog 134 7 = some 7 := by kernel_rfl
theorem fd134_8 : tfd Try.prog 134 8 = some (8, 130) := by kernel_rfl
theorem fo134_8 : tfo Try.prog 134 8 = some 8 := by kernel_rfl
theorem fd134_9 : tfd Try.prog 134 9 = some (9, 131) := by kernel_rfl
theorem fo134_9 : tfo Try.prog 134 9 = some 9 := by kernel_rfl
theorem fd134_10 : tfd Try.prog 134 10 = some (10, 132) := by kernel_rfl
theorem fo134_10 : tfo Try.prog 134 10 = some 10 := by kernel_rfl
theorem pl134 : tpl Try.prog 134 = some [(0, 1), (1, 1), (2, 1), (3, 1), (4, 1), (5, 1), (6, 1), (7, 1), (8, 1), (9, 1), (10, 1)] := by kernel_rfl
theorem bd134 (ps : List (Nat × AV)) (K : AV → Prop) : aBuild Try.prog 134 ps K = aBld (tpl Try.prog 134) (tzc Try.prog 134) ps K := aBuild_eq (by rw [pl134]; rfl) ps K
theorem ni134 : tni Try.prog 134 = true := by kernel_rfl
theorem ta134 : tas Try.prog 134 = some (.agg [(.int .u64 0), (.int .u64 0), (.int .u32 0), (.int .u8 0), (.int .u8 0), (.int .u8 0), (.int .u8 0), .nilFunc, (.ptr none), (.int .i32 0), (.int .i32 0)]) := by kernel_rfl
theorem sz135 : tsz Try.prog 135 = some 1 := by kernel_rfl
theorem ag135 : tag Try.prog 135 = some none := by kernel_rfl
theorem zc135 : tzc Try.prog 135 = some [.nilFunc] := by kernel_rfl
theorem sr135 : tsrc Try.prog 135 = true := by kernel_rfl
theorem sz136 : tsz Try.prog 136 = some 1 := by kernel_rfl
theorem ag136 : tag Try.prog 136 = some none := by kernel_rfl
theorem zc136 : tzc Try.prog 136 = some [(.ptr none)] := by kernel_rfl
theorem sr136 : tsrc Try.prog 136 = true := by kernel_rfl
theorem mu46 : tmkey Try.prog 46 = some true := by kernel_rfl
theorem mq46 : mks Try.prog 46 = none := by kernel_rfl
theorem mq48 : mks Try.prog 48 = some ([(0, .int), (1, .int)], (.int .i64 0)) := by kernel_rfl
theorem ar75 : tarr Try.prog 75 = some (2, 1) := by kernel_rfl
theorem ba75 (ps : List (Nat × AV)) (K : AV → Prop) : aBuild Try.prog 75 ps K = aBldA (tarr Try.prog 75) (tzc Try.prog 75) ps K := aBuildA_eq (by rw [ar75]; rfl) ps K
theorem eq75 : teq Try.prog 75 = some (.i64, 2) := by kernel_rfl
theorem ar124 : tarr Try.prog 124 = some (0, 1) := by kernel_rfl
theorem ba124 (ps : List (Nat × AV)) (K : AV → Prop) : aBuild Try.prog 124 ps K = aBldA (tarr Try.prog 124) (tzc Try.prog 124) ps K := aBuildA_eq (by rw [ar124]; rfl) ps K
theorem cv2_2 : tcv Try.prog 2 2 = some (some .i64) := by kernel_rfl
theorem cv2_3 : tcv Try.prog 2 3 = some (some .i64) := by kernel_rfl
theorem cv2_5 : tcv Try.prog 2 5 = some (some .u8) := by kernel_rfl
theorem cv2_6 : tcv Try.prog 2 6 = some (some .u8) := by kernel_rfl
theorem cv2_12 : tcv Try.prog 2 12 = some (some .u64) := by kernel_rfl
theorem cv2_21 : tcv Try.prog 2 21 = some (some .i32) := by kernel_rfl
theorem cv2_30 : tcv Try.prog 2 30 = some (some .i64) := by kernel_rfl
theorem cv2_57 : tcv Try.prog 2 57 = some (some .u64) := by kernel_rfl
theorem cv2_58 : tcv Try.prog 2 58 = some (some .u64) := by kernel_rfl
theorem cv2_118 : tcv Try.prog 2 118 = some (some .u32) := by kernel_rfl
theorem cv2_120 : tcv Try.prog 2 120 = some (some .u64) := by kernel_rfl
theorem cv2_127 : tcv Try.prog 2 127 = some (some .u8) := by kernel_rfl
theorem cv2_128 : tcv Try.prog 2 128 = some (some .u8) := by kernel_rfl
theorem cv2_131 : tcv Try.prog 2 131 = some (some .i32) := by kernel_rfl
theorem cv2_132 : tcv Try.prog 2 132 = some (some .i32) := by kernel_rfl
theorem cv3_2 : tcv Try.prog 3 2 = some (some .i64) := by kernel_rfl
theorem cv3_3 : tcv Try.prog 3 3 = some (some .i64) := by kernel_rfl
theorem cv3_5 : tcv Try.prog 3 5 = some (some .u8) := by kernel_rfl
theorem cv3_6 : tcv Try.prog 3 6 = some (some .u8) := by kernel_rfl
theorem cv3_12 : tcv Try.prog 3 12 = some (some .u64) := by kernel_rfl
theorem cv3_21 : tcv Try.prog 3 21 = some (some .i32) := by kernel_rfl
theorem cv3_30 : tcv Try.prog 3 30 = some (some .i64) := by kernel_rfl
theorem cv3_57 : tcv Try.prog 3 57 = some (some .u64) := by kernel_rfl
theorem cv3_58 : tcv Try.prog 3 58 = some (some .u64) := by kernel_rfl
theorem cv3_118 : tcv Try.prog 3 118 = some (some .u32) := by kernel_rfl
theorem cv3_120 : tcv Try.prog 3 120 = some (some .u64) := by kernel_rfl
theorem cv3_127 : tcv Try.prog 3 127 = some (some .u8) := by kernel_rfl
theorem cv3_128 : tcv Try.prog 3 128 = some (some .u8) := by kernel_rfl
theorem cv3_131 : tcv Try.prog 3 131 = some (some .i32) := by kernel_rfl
theorem cv3_132 : tcv Try.prog 3 132 = some (some .i32) := by kernel_rfl
theorem cv5_2 : tcv Try.prog 5 2 = some (some .i64) := by kernel_rfl
theorem cv5_3 : tcv Try.prog 5 3 = some (some .i64) := by kernel_rfl
theorem cv5_5 : tcv Try.prog 5 5 = some (some .u8) := by kernel_rfl
theorem cv5_6 : tcv Try.prog 5 6 = some (some .u8) := by kernel_rfl
theorem cv5_12 : tcv Try.prog 5 12 = some (some .u64) := by kernel_rfl
theorem cv5_21 : tcv Try.prog 5 21 = some (some .i32) := by kernel_rfl
theorem cv5_30 : tcv Try.prog 5 30 = some (some .i64) := by kernel_rfl
theorem cv5_57 : tcv Try.prog 5 57 = some (some .u64) := by kernel_rfl
theorem cv5_58 : tcv Try.prog 5 58 = some (some .u64) := by kernel_rfl
theorem cv5_118 : tcv Try.prog 5 118 = some (some .u32) := by kernel_rfl
theorem cv5_120 : tcv Try.prog 5 120 = some (some .u64) := by kernel_rfl
theorem cv5_127 : tcv Try.prog 5 127 = some (some .u8) := by kernel_rfl
theorem cv5_128 : tcv Try.prog 5 128 = some (some .u8) := by kernel_rfl
theorem cv5_131 : tcv Try.prog 5 131 = some (some .i32) := by kernel_rfl
theorem cv5_132 : tcv Try.prog 5 132 = some (some .i32) := by kernel_rfl
theorem cv6_2 : tcv Try.prog 6 2 = some (some .i64) := by kernel_rfl
theorem cv6_3 : tcv Try.prog 6 3 = some (some .i64) := by kernel_rfl
theorem cv6_5 : tcv Try.prog 6 5 = some (some .u8) := by kernel_rfl
theorem cv6_6 : tcv Try.prog 6 6 = some (some .u8) := by kernel_rfl
theorem cv6_12 : tcv Try.prog 6 12 = some (some .u64) := by kernel_rfl
theorem cv6_21 : tcv Try.prog 6 21 = some (some .i32) := by kernel_rfl
theorem cv6_30 : tcv Try.prog 6 30 = some (some .i64) := by kernel_rfl
theorem cv6_57 : tcv Try.prog 6 57 = some (some .u64) := by kernel_rfl
theorem cv6_58 : tcv Try.prog 6 58 = some (some .u64) := by kernel_rfl
theorem cv6_118 : tcv Try.prog 6 118 = some (some .u32) := by kernel_rfl
theorem cv6_120 : tcv Try.prog 6 120 = some (some .u64) := by kernel_rfl
theorem cv6_127 : tcv Try.prog 6 127 = some (some .u8) := by kernel_rfl
theorem cv6_128 : tcv Try.prog 6 128 = some (some .u8) := by kernel_rfl
theorem cv6_131 : tcv Try.prog 6 131 = some (some .i32) := by kernel_rfl
theorem cv6_132 : tcv Try.prog 6 132 = some (some .i32) := by kernel_rfl
theorem cv9_9 : tcv Try.prog 9 9 = some none := by kernel_rfl
theorem cv9_10 : tcv Try.prog 9 10 = some none := by kernel_rfl
theorem cv9_11 : tcv Try.prog 9 11 = some none := by kernel_rfl
theorem cv10_9 : tcv Try.prog 10 9 = some none := by kernel_rfl
theorem cv10_10 : tcv Try.prog 10 10 = some none := by kernel_rfl
theorem cv10_11 : tcv Try.prog 10 11 = some none := by kernel_rfl
theorem cv11_9 : tcv Try.prog 11 9 = some none := by kernel_rfl
theorem cv11_10 : tcv Try.prog 11 10 = some none := by kernel_rfl
theorem cv11_11 : tcv Try.prog 11 11 = some none := by kernel_rfl
theorem cv12_2 : tcv Try.prog 12 2 = some (some .i64) := by kernel_rfl
theorem cv12_3 : tcv Try.prog 12 3 = some (some .i64) := by kernel_rfl
theorem cv12_5 : tcv Try.prog 12 5 = some (some .u8) := by kernel_rfl
theorem cv12_6 : tcv Try.prog 12 6 = some (some .u8) := by kernel_rfl
theorem cv12_12 : tcv Try.prog 12 12 = some (some .u64) := by kernel_rfl
theorem cv12_21 : tcv Try.prog 12 21 = some (some .i32) := by kernel_rfl
theorem cv12_30 : tcv Try.prog 12 30 = some (some .i64) := by kernel_rfl
theorem cv12_57 : tcv Try.prog 12 57 = some (some .u64) := by kernel_rfl
theorem cv12_58 : tcv Try.prog 12 58 = some (some .u64) := by kernel_rfl
theorem cv12_118 : tcv Try.prog 12 118 = some (some .u32) := by kernel_rfl
theorem cv12_120 : tcv Try.prog 12 120 = some (some .u64) := by kernel_rfl
theorem cv12_127 : tcv Try.prog 12 127 = some (some .u8) := by kernel_rfl
theorem cv12_128 : tcv Try.prog 12 128 = some (some .u8) := by kernel_rfl
theorem cv12_131 : tcv Try.prog 12 131 = some (some .i32) := by kernel_rfl
theorem cv12_132 : tcv Try.prog 12 132 = some (some .i32) := by kernel_rfl
theorem cv21_2 : tcv Try.prog 21 2 = some (some .i64) := by kernel_rfl
theorem cv21_3 : tcv Try.prog 21 3 = some (some .i64) := by kernel_rfl
theorem cv21_5 : tcv Try.prog 21 5 = some (some .u8) := by kernel_rfl
theorem cv21_6 : tcv Try.prog 21 6 = some (some .u8) := by kernel_rfl
theorem cv21_12 : tcv Try.prog 21 12 = some (some .u64) := by kernel_rfl
theorem cv21_21 : tcv Try.prog 21 21 = some (some .i32) := by kernel_rfl
theorem cv21_30 : tcv Try.prog 21 30 = some (some .i64) := by kernel_rfl
theorem cv21_57 : tcv Try.prog 21 57 = some (some .u64) := by kernel_rfl
theorem cv21_58 : tcv Try.prog 21 58 = some (some .u64) := by kernel_rfl
theorem cv21_118 : tcv Try.prog 21 118 = some (some .u32) := by kernel_rfl
theorem cv21_120 : tcv Try.prog 21 120 = some (some .u64) := by kernel_rfl
theorem cv21_127 : tcv Try.prog 21 127 = some (some .u8) := by kernel_rfl
theorem cv21_128 : tcv Try.prog 21 128 = some (some .u8) := by kernel_rfl
theorem cv21_131 : tcv Try.prog 21 131 = some (some .i32) := by kernel_rfl
theorem cv21_132 : tcv Try.prog 21 132 = some (some .i32) := by kernel_rfl
theorem cv30_2 : tcv Try.prog 30 2 = some (some .i64) := by kernel_rfl
theorem cv30_3 : tcv Try.prog 30 3 = some (some .i64) := by kernel_rfl
theorem cv30_5 : tcv Try.prog 30 5 = some (some .u8) := by kernel_rfl
theorem cv30_6 : tcv Try.prog 30 6 = some (some .u8) := by kernel_rfl
theorem cv30_12 : tcv Try.prog 30 12 = some (some .u64) := by kernel_rfl
theorem cv30_21 : tcv Try.prog 30 21 = some (some .i32) := by kernel_rfl
theorem cv30_30 : tcv Try.prog 30 30 = some (some .i64) := by kernel_rfl
theorem cv30_57 : tcv Try.prog 30 57 = some (some .u64) := by kernel_rfl
theorem cv30_58 : tcv Try.prog 30 58 = some (some .u64) := by kernel_rfl
theorem cv30_118 : tcv Try.prog 30 118 = some (some .u32) := by kernel_rfl
theorem cv30_120 : tcv Try.prog 30 120 = some (some .u64) := by kernel_rfl
theorem cv30_127 : tcv Try.prog 30 127 = some (some .u8) := by kernel_rfl
theorem cv30_128 : tcv Try.prog 30 128 = some (some .u8) := by kernel_rfl
theorem cv30_131 : tcv Try.prog 30 131 = some (some .i32) := by kernel_rfl
theorem cv30_132 : tcv Try.prog 30 132 = some (some .i32) := by kernel_rfl
theorem cv57_2 : tcv Try.prog 57 2 = some (some .i64) := by kernel_rfl
theorem cv57_3 : tcv Try.prog 57 3 = some (some .i64) := by kernel_rfl
theorem cv57_5 : tcv Try.prog 57 5 = some (some .u8) := by kernel_rfl
theorem cv57_6 : tcv Try.prog 57 6 = some (some .u8) := by kernel_rfl
theorem cv57_12 : tcv Try.prog 57 12 = some (some .u64) := by kernel_rfl
theorem cv57_21 : tcv Try.prog 57 21 = some (some .i32) := by kernel_rfl
theorem cv57_30 : tcv Try.prog 57 30 = some (some .i64) := by kernel_rfl
theorem cv57_57 : tcv Try.prog 57 57 = some (some .u64) := by kernel_rfl
theorem cv57_58 : tcv Try.prog 57 58 = some (some .u64) := by kernel_rfl
theorem cv57_118 : tcv Try.prog 57 118 = some (some .u32) := by kernel_rfl
theorem cv57_120 : tcv Try.prog 57 120 = some (some .u64) := by kernel_rfl
theorem cv57_127 : tcv Try.prog 57 127 = some (some .u8) := by kernel_rfl
theorem cv57_128 : tcv Try.prog 57 128 = some (some .u8) := by kernel_rfl
theorem cv57_131 : tcv Try.prog 57 131 = some (some .i32) := by kernel_rfl
theorem cv57_132 : tcv Try.prog 57 132 = some (some .i32) := by kernel_rfl
theorem cv58_2 : tcv Try.prog 58 2 = some (some .i64) := by kernel_rfl
theorem cv58_3 : tcv Try.prog 58 3 = some (some .i64) := by kernel_rfl
theorem cv58_5 : tcv Try.prog 58 5 = some (some .u8) := by kernel_rfl
theorem cv58_6 : tcv Try.prog 58 6 = some (some .u8) := by kernel_rfl
theorem cv58_12 : tcv Try.prog 58 12 = some (some .u64) := by kernel_rfl
theorem cv58_21 : tcv Try.prog 58 21 = some (some .i32) := by kernel_rfl
theorem cv58_30 : tcv Try.prog 58 30 = some (some .i64) := by kernel_rfl
theorem cv58_57 : tcv Try.prog 58 57 = some (some .u64) := by kernel_rfl
theorem cv58_58 : tcv Try.prog 58 58 = some (some .u64) := by kernel_rfl
theorem cv58_118 : tcv Try.prog 58 118 = some (some .u32) := by kernel_rfl
theorem cv58_120 : tcv Try.prog 58 120 = some (some .u64) := by kernel_rfl
theorem cv58_127 : tcv Try.prog 58 127 = some (some .u8) := by kernel_rfl
theorem cv58_128 : tcv Try.prog 58 128 = some (some .u8) := by kernel_rfl
theorem cv58_131 : tcv Try.prog 58 131 = some (some .i32) := by kernel_rfl
theorem cv58_132 : tcv Try.prog 58 132 = some (some .i32) := by kernel_rfl
theorem cv118_2 : tcv Try.prog 118 2 = some (some .i64) := by kernel_rfl
theorem cv118_3 : tcv Try.prog 118 3 = some (some .i64) := by kernel_rfl
theorem cv118_5 : tcv Try.prog 118 5 = some (some .u8) := by kernel_rfl
theorem cv118_6 : tcv Try.prog 118 6 = some (some .u8) := by kernel_rfl
theorem cv118_12 : tcv Try.prog 118 12 = some (some .u64) := by kernel_rfl
theorem cv118_21 : tcv Try.prog 118 21 = some (some .i32) := by kernel_rfl
theorem cv118_30 : tcv Try.prog 118 30 = some (some .i64) := by kernel_rfl
theorem cv118_57 : tcv Try.prog 118 57 = some (some .u64) := by kernel_rfl
theorem cv118_58 : tcv Try.prog 118 58 = some (some .u64) := by kernel_rfl
theorem cv118_118 : tcv Try.prog 118 118 = some (some .u32) := by kernel_rfl
theorem cv118_120 : tcv Try.prog 118 120 = some (some .u64) := by kernel_rfl
theorem cv118_127 : tcv Try.prog 118 127 = some (some .u8) := by kernel_rfl
theorem cv118_128 : tcv Try.prog 118 128 = some (some .u8) := by kernel_rfl
theorem cv118_131 : tcv Try.prog 118 131 = some (some .i32) := by kernel_rfl
theorem cv118_132 : tcv Try.prog 118 132 = some (some .i32) := by kernel_rfl
theorem cv120_2 : tcv Try.prog 120 2 = some (some .i64) := by kernel_rfl
theorem cv120_3 : tcv Try.prog 120 3 = some (some .i64) := by kernel_rfl
theorem cv120_5 : tcv Try.prog 120 5 = some (some .u8) := by kernel_rfl
theorem cv120_6 : tcv Try.prog 120 6 = some (some .u8) := by kernel_rfl
theorem cv120_12 : tcv Try.prog 120 12 = some (some .u64) := by kernel_rfl
theorem cv120_21 : tcv Try.prog 120 21 = some (some .i32) := by kernel_rfl
theorem cv120_30 : tcv Try.prog 120 30 = some (some .i64) := by kernel_rfl
theorem cv120_57 : tcv Try.prog 120 57 = some (some .u64) := by kernel_rfl
theorem cv120_58 : tcv Try.prog 120 58 = some (some .u64) := by kernel_rfl
theorem cv120_118 : tcv Try.prog 120 118 = some (some .u32) := by kernel_rfl
theorem cv120_120 : tcv Try.prog 120 120 = some (some .u64) := by kernel_rfl
theorem cv120_127 : tcv Try.prog 120 127 = some (some .u8) := by kernel_rfl
theorem cv120_128 : tcv Try.prog 120 128 = some (some .u8) := by kernel_rfl
theorem cv120_131 : tcv Try.prog 120 131 = some (some .i32) := by kernel_rfl
theorem cv120_132 : tcv Try.prog 120 132 = some (some .i32) := by kernel_rfl
theorem cv127_2 : tcv Try.prog 127 2 = some (some .i64) := by kernel_rfl
theorem cv127_3 : tcv Try.prog 127 3 = some (some .i64) := by kernel_rfl
theorem cv127_5 : tcv Try.prog 127 5 = some (some .u8) := by kernel_rfl
theorem cv127_6 : tcv Try.prog 127 6 = some (some .u8) := by kernel_rfl
theorem cv127_12 : tcv Try.prog 127 12 = some (some .u64) := by kernel_rfl
theorem cv127_21 : tcv Try.prog 127 21 = some (some .i32) := by kernel_rfl
theorem cv127_30 : tcv Try.prog 127 30 = some (some .i64) := by kernel_rfl
theorem cv127_57 : tcv Try.prog 127 57 = some (some .u64) := by kernel_rfl
theorem cv127_58 : tcv Try.prog 127 58 = some (some .u64) := by kernel_rfl
theorem cv127_118 : tcv Try.prog 127 118 = some (some .u32) := by kernel_rfl
theorem cv127_120 : tcv Try.prog 127 120 = some (some .u64) := by kernel_rfl
theorem cv127_127 : tcv Try.prog 127 127 = some (some .u8) := by kernel_rfl
theorem cv127_128 : tcv Try.prog 127 128 = some (some .u8) := by kernel_rfl
theorem cv127_131 : tcv Try.prog 127 131 = some (some .i32) := by kernel_rfl
theorem cv127_132 : tcv Try.prog 127 132 = some (some .i32) := by kernel_rfl
theorem cv128_2 : tcv Try.prog 128 2 = some (some .i64) := by kernel_rfl
theorem cv128_3 : tcv Try.prog 128 3 = some (some .i64) := by kernel_rfl
theorem cv128_5 : tcv Try.prog 128 5 = some (some .u8) := by kernel_rfl
theorem cv128_6 : tcv Try.prog 128 6 = some (some .u8) := by kernel_rfl
theorem cv128_12 : tcv Try.prog 128 12 = some (some .u64) := by kernel_rfl
theorem cv128_21 : tcv Try.prog 128 21 = some (some .i32) := by kernel_rfl
theorem cv128_30 : tcv Try.prog 128 30 = some (some .i64) := by kernel_rfl
theorem cv128_57 : tcv Try.prog 128 57 = some (some .u64) := by kernel_rfl
theorem cv128_58 : tcv Try.prog 128 58 = some (some .u64) := by kernel_rfl
theorem cv128_118 : tcv Try.prog 128 118 = some (some .u32) := by kernel_rfl
theorem cv128_120 : tcv Try.prog 128 120 = some (some .u64) := by kernel_rfl
theorem cv128_127 : tcv Try.prog 128 127 = some (some .u8) := by kernel_rfl
theorem cv128_128 : tcv Try.prog 128 128 = some (some .u8) := by kernel_rfl
theorem cv128_131 : tcv Try.prog 128 131 = some (some .i32) := by kernel_rfl
theorem cv128_132 : tcv Try.prog 128 132 = some (some .i32) := by kernel_rfl
theorem cv131_2 : tcv Try.prog 131 2 = some (some .i64) := by kernel_rfl
theorem cv131_3 : tcv Try.prog 131 3 = some (some .i64) := by kernel_rfl
theorem cv131_5 : tcv Try.prog 131 5 = some (some .u8) := by kernel_rfl
theorem cv131_6 : tcv Try.prog 131 6 = some (some .u8) := by kernel_rfl
theorem cv131_12 : tcv Try.prog 131 12 = some (some .u64) := by kernel_rfl
theorem cv131_21 : tcv Try.prog 131 21 = some (some .i32) := by kernel_rfl
theorem cv131_30 : tcv Try.prog 131 30 = some (some .i64) := by kernel_rfl
theorem cv131_57 : tcv Try.prog 131 57 = some (some .u64) := by kernel_rfl
theorem cv131_58 : tcv Try.prog 131 58 = some (some .u64) := by kernel_rfl
theorem cv131_118 : tcv Try.prog 131 118 = some (some .u32) := by kernel_rfl
theorem cv131_120 : tcv Try.prog 131 120 = some (some .u64) := by kernel_rfl
theorem cv131_127 : tcv Try.prog 131 127 = some (some .u8) := by kernel_rfl
theorem cv131_128 : tcv Try.prog 131 128 = some (some .u8) := by kernel_rfl
theorem cv131_131 : tcv Try.prog 131 131 = some (some .i32) := by kernel_rfl
theorem cv131_132 : tcv Try.prog 131 132 = some (some .i32) := by kernel_rfl
theorem cv132_2 : tcv Try.prog 132 2 = some (some .i64) := by kernel_rfl
theorem cv132_3 : tcv Try.prog 132 3 = some (some .i64) := by kernel_rfl
theorem cv132_5 : tcv Try.prog 132 5 = some (some .u8) := by kernel_rfl
theorem cv132_6 : tcv Try.prog 132 6 = some (some .u8) := by kernel_rfl
theorem cv132_12 : tcv Try.prog 132 12 = some (some .u64) := by kernel_rfl
theorem cv132_21 : tcv Try.prog 132 21 = some (some .i32) := by kernel_rfl
theorem cv132_30 : tcv Try.prog 132 30 = some (some .i64) := by kernel_rfl
theorem cv132_57 : tcv Try.prog 132 57 = some (some .u64) := by kernel_rfl
theorem cv132_58 : tcv Try.prog 132 58 = some (some .u64) := by kernel_rfl
theorem cv132_118 : tcv Try.prog 132 118 = some (some .u32) := by kernel_rfl
theorem cv132_120 : tcv Try.prog 132 120 = some (some .u64) := by kernel_rfl
theorem cv132_127 : tcv Try.prog 132 127 = some (some .u8) := by kernel_rfl
theorem cv132_128 : tcv Try.prog 132 128 = some (some .u8) := by kernel_rfl
theorem cv132_131 : tcv Try.prog 132 131 = some (some .i32) := by kernel_rfl
theorem cv132_132 : tcv Try.prog 132 132 = some (some .i32) := by kernel_rfl
attribute [go_sem] sz1 ag1 zc1 sr1 sz2 ag2 zc2 sr2 sz3 ag3 zc3 sr3 sz4 ag4 zc4 sr4 bo4 sz5 ag5 zc5 sr5 sz6 ag6 zc6 sr6 ni6 ta6 sz7 ag7 zc7 sr7 fd7_0 fo7_0 fd7_1 fo7_1 fd7_2 fo7_2 fd7_3 fo7_3 pl7 bd7 sz8 ag8 zc8 sr8 fd8_0 fo8_0 fd8_1 fo8_1 fd8_2 fo8_2 fd8_3 fo8_3 pl8 bd8 ni8 ta8 sz9 ag9 zc9 sr9 cu9 ln9 sz10 ag10 zc10 sr10 ni10 ta10 cu10 ln10 sz11 ag11 zc11 sr11 ni11 ta11 cu11 ln11 sz12 ag12 zc12 sr12 sz13 ag13 zc13 sr13 fd13_0 fo13_0 fd13_1 fo13_1 pl13 bd13 sz14 ag14 zc14 sr14 fd14_0 fo14_0 fd14_1 fo14_1 pl14 bd14 ni14 ta14 sz15 ag15 zc15 sr15 ni15 ta15 sz16 ag16 zc16 sr16 ni16 ta16 sz17 ag17 zc17 sr17 ni17 ta17 sz18 ag18 zc18 sr18 fd18_0 fo18_0 pl18 bd18 sz19 ag19 zc19 sr19 fd19_0 fo19_0 pl19 bd19 ni19 ta19 sz20 ag20 zc20 sr20 if20 sz21 ag21 zc21 sr21 sz22 ag22 zc22 sr22 el22 cu22 ap22 bs22 ms22 mm22 mc22 mb22 ma22 ae22_22 ln22 sz23 ag23 zc23 sr23 el23 cu23 ap23 bs23 ms23 mm23 mc23 mb23 ma23 ae23_23 ln23 sz24 ag24 zc24 sr24 el24 cu24 ap24 bs24 ms24 mm24 mc24 mb24 ma24 ae24_24 ln24 sz25 ag25 zc25 sr25 fd25_0 fo25_0 fd25_1 fo25_1 fd25_2 fo25_2 fd25_3 fo25_3 fd25_4 fo25_4 pl25 bd25 sz26 ag26 zc26 sr26 fd26_0 fo26_0 fd26_1 fo26_1 fd26_2 fo26_2 fd26_3 fo26_3 fd26_4 fo26_4 pl26 bd26 ni26 ta26 sz27 ag27 zc27 sr27 sz28 ag28 zc28 sr28 sz29 ag29 zc29 sr29 el29 cu29 ap29 bs29 ms29 mm29 mc29 mb29 ma29 ae29_29 ln29 sz30 ag30 zc30 sr30 ni30 ta30 sz32 ag32 zc32 sr32 sz33 ag33 zc33 sr33 sz34 ag34 zc34 sr34 sz36 ag36 zc36 sr36 sz38 ag38 zc38 sr38 sz39 ag39 zc39 sr39 sz40 ag40 zc40 sr40 sz41 ag41 zc41 sr41 sz42 ag42 zc42 sr42 sz43 ag43 zc43 sr43 sz44 ag44 zc44 sr44 sz45 ag45 zc45 sr45 sz46 ag46 zc46 sr46 ln46 mk46 sz47 ag47 zc47 sr47 sz48 ag48 zc48 sr48 ln48 sz49 ag49 zc49 sr49 fd49_0 fo49_0 fd49_1 fo49_1 fd49_2 fo49_2 pl49 bd49 sz50 ag50 zc50 sr50 fd50_0 fo50_0 fd50_1 fo50_1 fd50_2 fo50_2 pl50 bd50 es50 ni50 ta50 sz51 ag51 zc51 sr51 fd51_0 fo51_0 fd51_1 fo51_1 pl51 bd51 sz52 ag52 zc52 sr52 fd52_0 fo52_0 fd52_1 fo52_1 pl52 bd52 es52 ni52 ta52 sz54 ag54 zc54 sr54 sz55 ag55 zc55 sr55 sz56 ag56 zc56 sr56 sz57 ag57 zc57 sr57 sz58 ag58 zc58 sr58 ni58 ta58 sz59 ag59 zc59 sr59 el59 cu59 ap59 bs59 ms59 mm59 mc59 mb59 ma59 ae59_59 ln59 sz60 ag60 zc60 sr60 fd60_0 fo60_0 fd60_1 fo60_1 fd60_2 fo60_2 fd60_3 fo60_3 fd60_4 fo60_4 pl60 bd60 sz61 ag61 zc61 sr61 fd61_0 fo61_0 fd61_1 fo61_1 fd61_2 fo61_2 fd61_3 fo61_3 fd61_4 fo61_4 pl61 bd61 ni61 ta61 sz63 ag63 zc63 sr63 sz64 ag64 zc64 sr64 el64 cu64 ap64 bs64 ms64 mm64 mc64 mb64 ma64 ae64_64 ln64 sz65 ag65 zc65 sr65 sz66 ag66 zc66 sr66 fd66_0 fo66_0 fd66_1 fo66_1 fd66_2 fo66_2 pl66 bd66 sz67 ag67 zc67 sr67 fd67_0 fo67_0 fd67_1 fo67_1 fd67_2 fo67_2 pl67 bd67 es67 ni67 ta67 sz68 ag68 zc68 sr68 sz69 ag69 zc69 sr69 sz70 ag70 zc70 sr70 sz71 ag71 zc71 sr71 fd71_0 fo71_0 fd71_1 fo71_1 fd71_2 fo71_2 pl71 bd71 sz72 ag72 zc72 sr72 fd72_0 fo72_0 fd72_1 fo72_1 fd72_2 fo72_2 pl72 bd72 ni72 ta72 sz73 ag73 zc73 sr73 el73 cu73 ap73 bs73 ms73 mm73 mc73 mb73 ma73 ae73_73 ln73 sz74 ag74 zc74 sr74 sz75 ag75 zc75 sr75 es75 el75 ln75 sz76 ag76 zc76 sr76 sz77 ag77 zc77 sr77 sz79 ag79 zc79 sr79 sz80 ag80 zc80 sr80 sz81 ag81 zc81 sr81 sz82 ag82 zc82 sr82 sz83 ag83 zc83 sr83 sz84 ag84 zc84 sr84 sz85 ag85 zc85 sr85 sz86 ag86 zc86 sr86 sz87 ag87 zc87 sr87 sz88 ag88 zc88 sr88 ni88 ta88 sz90 ag90 zc90 sr90 sz91 ag91 zc91 sr91 sz92 ag92 zc92 sr92 ni92 ta92 sz93 ag93 zc93 sr93 ni93 ta93 sz94 ag94 zc94 sr94 el94 cu94 ap94 bs94 ms94 mm94 mc94 mb94 ma94 ae94_94 ln94 sz95 ag95 zc95 sr95 sz96 ag96 zc96 sr96 sz97 ag97 zc97 sr97 sz98 ag98 zc98 sr98 sz99 ag99 zc99 sr99 sz100 ag100 zc100 sr100 sz101 ag101 zc101 sr101 sz102 ag102 zc102 sr102 sz103 ag103 zc103 sr103 sz104 ag104 zc104 sr104 sz105 ag105 zc105 sr105 sz106 ag106 zc106 sr106 sz107 ag107 zc107 sr107 sz108 ag108 zc108 sr108 if108 sz109 ag109 zc109 sr109 if109 sz110 ag110 zc110 sr110 sz111 ag111 zc111 sr111 sz112 ag112 zc112 sr112 sz113 ag113 zc113 sr113 sz114 ag114 zc114 sr114 sz115 ag115 zc115 sr115 sz116 ag116 zc116 sr116 sz117 ag117 zc117 sr117 sz118 ag118 zc118 sr118 sz119 ag119 zc119 sr119 sz120 ag120 zc120 sr120 sz121 ag121 zc121 sr121 sz122 ag122 zc122 sr122 fd122_0 fo122_0 fd122_1 fo122_1 fd122_2 fo122_2 fd122_3 fo122_3 pl122 bd122 sz123 ag123 zc123 sr123 fd123_0 fo123_0 fd123_1 fo123_1 fd123_2 fo123_2 fd123_3 fo123_3 pl123 bd123 ni123 ta123 sz124 ag124 zc124 sr124 es124 el124 ln124 sz125 ag125 zc125 sr125 fd125_0 pl125 bd125 sz126 ag126 zc126 sr126 fd126_0 pl126 bd126 ni126 ta126 sz127 ag127 zc127 sr127 ni127 ta127 sz128 ag128 zc128 sr128 ni128 ta128 sz129 ag129 zc129 sr129 sz130 ag130 zc130 sr130 ni130 ta130 sz131 ag131 zc131 sr131 ni131 ta131 sz132 ag132 zc132 sr132 ni132 ta132 sz133 ag133 zc133 sr133 fd133_0 fo133_0 fd133_1 fo133_1 fd133_2 fo133_2 fd133_3 fo133_3 fd133_4 fo133_4 fd133_5 fo133_5 fd133_6 fo133_6 fd133_7 fo133_7 fd133_8 fo133_8 fd133_9 fo133_9 fd133_10 fo133_10 pl133 bd133 sz134 ag134 zc134 sr134 fd134_0 fo134_0 fd134_1 fo134_1 fd134_2 fo134_2 fd134_3 fo134_3 fd134_4 fo134_4 fd134_5 fo134_5 fd134_6 fo134_6 fd134_7 fo134_7 fd134_8 fo134_8 fd134_9 fo134_9 fd134_10 fo134_10 pl134 bd134 ni134 ta134 sz135 ag135 zc135 sr135 sz136 ag136 zc136 sr136 mu46 mq46 mq48 ar75 ba75 eq75 ar124 ba124 cv2_2 cv2_3 cv2_5 cv2_6 cv2_12 cv2_21 cv2_30 cv2_57 cv2_58 cv2_118 cv2_120 cv2_127 cv2_128 cv2_131 cv2_132 cv3_2 cv3_3 cv3_5 cv3_6 cv3_12 cv3_21 cv3_30 cv3_57 cv3_58 cv3_118 cv3_120 cv3_127 cv3_128 cv3_131 cv3_132 cv5_2 cv5_3 cv5_5 cv5_6 cv5_12 cv5_21 cv5_30 cv5_57 cv5_58 cv5_118 cv5_120 cv5_127 cv5_128 cv5_131 cv5_132 cv6_2 cv6_3 cv6_5 cv6_6 cv6_12 cv6_21 cv6_30 cv6_57 cv6_58 cv6_118 cv6_120 cv6_127 cv6_128 cv6_131 cv6_132 cv9_9 cv9_10 cv9_11 cv10_9 cv10_10 cv10_11 cv11_9 cv11_10 cv11_11 cv12_2 cv12_3 cv12_5 cv12_6 cv12_12 cv12_21 cv12_30 cv12_57 cv12_58 cv12_118 cv12_120 cv12_127 cv12_128 cv12_131 cv12_132 cv21_2 cv21_3 cv21_5 cv21_6 cv21_12 cv21_21 cv21_30 cv21_57 cv21_58 cv21_118 cv21_120 cv21_127 cv21_128 cv21_131 cv21_132 cv30_2 cv30_3 cv30_5 cv30_6 cv30_12 cv30_21 cv30_30 cv30_57 cv30_58 cv30_118 cv30_120 cv30_127 cv30_128 cv30_131 cv30_132 cv57_2 cv57_3 cv57_5 cv57_6 cv57_12 cv57_21 cv57_30 cv57_57 cv57_58 cv57_118 cv57_120 cv57_127 cv57_128 cv57_131 cv57_132 cv58_2 cv58_3 cv58_5 cv58_6 cv58_12 cv58_21 cv58_30 cv58_57 cv58_58 cv58_118 cv58_120 cv58_127 cv58_128 cv58_131 cv58_132 cv118_2 cv118_3 cv118_5 cv118_6 cv118_12 cv118_21 cv118_30 cv118_57 cv118_58 cv118_118 cv118_120 cv118_127 cv118_128 cv118_131 cv118_132 cv120_2 cv120_3 cv120_5 cv120_6 cv120_12 cv120_21 cv120_30 cv120_57 cv120_58 cv120_118 cv120_120 cv120_127 cv120_128 cv120_131 cv120_132 cv127_2 cv127_3 cv127_5 cv127_6 cv127_12 cv127_21 cv127_30 cv127_57 cv127_58 cv127_118 cv127_120 cv127_127 cv127_128 cv127_131 cv127_132 cv128_2 cv128_3 cv128_5 cv128_6 cv128_12 cv128_21 cv128_30 cv128_57 cv128_58 cv128_118 cv128_120 cv128_127 cv128_128 cv128_131 cv128_132 cv131_2 cv131_3 cv131_5 cv131_6 cv131_12 cv131_21 cv131_30 cv131_57 cv131_58 cv131_118 cv131_120 cv131_127 cv131_128 cv131_131 cv131_132 cv132_2 cv132_3 cv132_5 cv132_6 cv132_12 cv132_21 cv132_30 cv132_57 cv132_58 cv132_118 cv132_120 cv132_127 cv132_128 cv132_131 cv132_132
end Go.Proofs.Ytaepdkjfaeepmaa.Ty
