/- Texts joined: Ty. No conditions. -/
import Derived.Test.YtnioapinljedmaaProg
import Derived.Test.YtnioapinljedmaaMrE
import Derived.KernelRfl
/- The closed facts on the types of this translation: cells, zero values, places of fields, elements. By program; no conditions. -/
namespace Go.Proofs.Ytnioapinljedmaa.Ty
open Go Go.Proofs Go.Abs
theorem mixed : Try.prog.follows .mixedOrders = true := by kernel_rfl
theorem sz1 : tsz Try.prog 1 = some 1 := by kernel_rfl
theorem ag1 : tag Try.prog 1 = some none := by kernel_rfl
theorem zc1 : tzc Try.prog 1 = some [.nilFunc] := by kernel_rfl
theorem sr1 : tsrc Try.prog 1 = true := by kernel_rfl
theorem sz2 : tsz Try.prog 2 = some 1 := by kernel_rfl
theorem ag2 : tag Try.prog 2 = some none := by kernel_rfl
theorem zc2 : tzc Try.prog 2 = some [(.int .i64 0)] := by kernel_rfl
theorem sr2 : tsrc Try.prog 2 = false := by kernel_rfl
theorem sz3 : tsz Try.prog 3 = some 1 := by kernel_rfl
theorem ag3 : tag Try.prog 3 = some none := by kernel_rfl
theorem zc3 : tzc Try.prog 3 = some [(.int .i64 0)] := by kernel_rfl
theorem sr3 : tsrc Try.prog 3 = false := by kernel_rfl
theorem sz4 : tsz Try.prog 4 = some 1 := by kernel_rfl
theorem ag4 : tag Try.prog 4 = some none := by kernel_rfl
theorem zc4 : tzc Try.prog 4 = some [(.bool false)] := by kernel_rfl
theorem sr4 : tsrc Try.prog 4 = true := by kernel_rfl
theorem bo4 : tbool Try.prog 4 = true := by kernel_rfl
theorem sz5 : tsz Try.prog 5 = some 1 := by kernel_rfl
theorem ag5 : tag Try.prog 5 = some none := by kernel_rfl
theorem zc5 : tzc Try.prog 5 = some [(.int .u8 0)] := by kernel_rfl
theorem sr5 : tsrc Try.prog 5 = false := by kernel_rfl
theorem sz6 : tsz Try.prog 6 = some 1 := by kernel_rfl
theorem ag6 : tag Try.prog 6 = some none := by kernel_rfl
theorem zc6 : tzc Try.prog 6 = some [(.int .u8 0)] := by kernel_rfl
theorem sr6 : tsrc Try.prog 6 = false := by kernel_rfl
theorem sz7 : tsz Try.prog 7 = some 4 := by kernel_rfl
theorem ag7 : tag Try.prog 7 = some (some 4) := by kernel_rfl
theorem zc7 : tzc Try.prog 7 = some [(.int .i64 0), (.int .i64 0), (.bool false), (.int .u8 0)] := by kernel_rfl
theorem sr7 : tsrc Try.prog 7 = true := by kernel_rfl
theorem fd7_0 : tfd Try.prog 7 0 = some (0, 2) := by kernel_rfl
theorem fo7_0 : tfo Try.prog 7 0 = some 0 := by kernel_rfl
theorem fd7_1 : tfd Try.prog 7 1 = some (1, 3) := by kernel_rfl
theorem fo7_1 : tfo Try.prog 7 1 = some 1 := by kernel_rfl
theorem fd7_2 : tfd Try.prog 7 2 = some (2, 4) := by kernel_rfl
theorem fo7_2 : tfo Try.prog 7 2 = some 2 := by kernel_rfl
theorem fd7_3 : tfd Try.prog 7 3 = some (3, 6) := by kernel_rfl
theorem fo7_3 : tfo Try.prog 7 3 = some 3 := by kernel_rfl
theorem pl7 : tpl Try.prog 7 = some [(0, 1), (1, 1), (2, 1), (3, 1)] := by kernel_rfl
theorem bd7 (ps : List (Nat × AV)) (K : AV → Prop) : aBuild Try.prog 7 ps K = aBld (tpl Try.prog 7) (tzc Try.prog 7) ps K := aBuild_eq (by rw [pl7]; rfl) ps K
theorem sz8 : tsz Try.prog 8 = some 4 := by kernel_rfl
theorem ag8 : tag Try.prog 8 = some (some 4) := by kernel_rfl
theorem zc8 : tzc Try.prog 8 = some [(.int .i64 0), (.int .i64 0), (.bool false), (.int .u8 0)] := by kernel_rfl
theorem sr8 : tsrc Try.prog 8 = true := by kernel_rfl
theorem fd8_0 : tfd Try.prog 8 0 = some (0, 2) := by kernel_rfl
theorem fo8_0 : tfo Try.prog 8 0 = some 0 := by kernel_rfl
theorem fd8_1 : tfd Try.prog 8 1 = some (1, 3) := by kernel_rfl
theorem fo8_1 : tfo Try.prog 8 1 = some 1 := by kernel_rfl
theorem fd8_2 : tfd Try.prog 8 2 = some (2, 4) := by kernel_rfl
theorem fo8_2 : tfo Try.prog 8 2 = some 2 := by kernel_rfl
theorem fd8_3 : tfd Try.prog 8 3 = some (3, 6) := by kernel_rfl
theorem fo8_3 : tfo Try.prog 8 3 = some 3 := by kernel_rfl
theorem pl8 : tpl Try.prog 8 = some [(0, 1), (1, 1), (2, 1), (3, 1)] := by kernel_rfl
theorem bd8 (ps : List (Nat × AV)) (K : AV → Prop) : aBuild Try.prog 8 ps K = aBld (tpl Try.prog 8) (tzc Try.prog 8) ps K := aBuild_eq (by rw [pl8]; rfl) ps K
theorem sz9 : tsz Try.prog 9 = some 1 := by kernel_rfl
theorem ag9 : tag Try.prog 9 = some none := by kernel_rfl
theorem zc9 : tzc Try.prog 9 = some [(.str ⟨#[]⟩)] := by kernel_rfl
theorem sr9 : tsrc Try.prog 9 = true := by kernel_rfl
theorem cu9 : tcut Try.prog 9 = some none := by kernel_rfl
theorem ln9 : tlen Try.prog 9 = some .str := by kernel_rfl
theorem sz10 : tsz Try.prog 10 = some 1 := by kernel_rfl
theorem ag10 : tag Try.prog 10 = some none := by kernel_rfl
theorem zc10 : tzc Try.prog 10 = some [(.str ⟨#[]⟩)] := by kernel_rfl
theorem sr10 : tsrc Try.prog 10 = true := by kernel_rfl
theorem cu10 : tcut Try.prog 10 = some none := by kernel_rfl
theorem ln10 : tlen Try.prog 10 = some .str := by kernel_rfl
theorem sz11 : tsz Try.prog 11 = some 1 := by kernel_rfl
theorem ag11 : tag Try.prog 11 = some none := by kernel_rfl
theorem zc11 : tzc Try.prog 11 = some [(.str ⟨#[]⟩)] := by kernel_rfl
theorem sr11 : tsrc Try.prog 11 = true := by kernel_rfl
theorem cu11 : tcut Try.prog 11 = some none := by kernel_rfl
theorem ln11 : tlen Try.prog 11 = some .str := by kernel_rfl
theorem sz12 : tsz Try.prog 12 = some 1 := by kernel_rfl
theorem ag12 : tag Try.prog 12 = some none := by kernel_rfl
theorem zc12 : tzc Try.prog 12 = some [(.int .u64 0)] := by kernel_rfl
theorem sr12 : tsrc Try.prog 12 = false := by kernel_rfl
theorem sz13 : tsz Try.prog 13 = some 2 := by kernel_rfl
theorem ag13 : tag Try.prog 13 = some (some 2) := by kernel_rfl
theorem zc13 : tzc Try.prog 13 = some [(.str ⟨#[]⟩), (.int .u64 0)] := by kernel_rfl
theorem sr13 : tsrc Try.prog 13 = true := by kernel_rfl
theorem fd13_0 : tfd Try.prog 13 0 = some (0, 9) := by kernel_rfl
theorem fo13_0 : tfo Try.prog 13 0 = some 0 := by kernel_rfl
theorem fd13_1 : tfd Try.prog 13 1 = some (1, 12) := by kernel_rfl
theorem fo13_1 : tfo Try.prog 13 1 = some 1 := by kernel_rfl
theorem pl13 : tpl Try.prog 13 = some [(0, 1), (1, 1)] := by kernel_rfl
theorem bd13 (ps : List (Nat × AV)) (K : AV → Prop) : aBuild Try.prog 13 ps K = aBld (tpl Try.prog 13) (tzc Try.prog 13) ps K := aBuild_eq (by rw [pl13]; rfl) ps K
theorem sz14 : tsz Try.prog 14 = some 2 := by kernel_rfl
theorem ag14 : tag Try.prog 14 = some (some 2) := by kernel_rfl
theorem zc14 : tzc Try.prog 14 = some [(.str ⟨#[]⟩), (.int .u64 0)] := by kernel_rfl
theorem sr14 : tsrc Try.prog 14 = true := by kernel_rfl
theorem fd14_0 : tfd Try.prog 14 0 = some (0, 9) := by kernel_rfl
theorem fo14_0 : tfo Try.prog 14 0 = some 0 := by kernel_rfl
theorem fd14_1 : tfd Try.prog 14 1 = some (1, 12) := by kernel_rfl
theorem fo14_1 : tfo Try.prog 14 1 = some 1 := by kernel_rfl
theorem pl14 : tpl Try.prog 14 = some [(0, 1), (1, 1)] := by kernel_rfl
theorem bd14 (ps : List (Nat × AV)) (K : AV → Prop) : aBuild Try.prog 14 ps K = aBld (tpl Try.prog 14) (tzc Try.prog 14) ps K := aBuild_eq (by rw [pl14]; rfl) ps K
theorem sz15 : tsz Try.prog 15 = some 1 := by kernel_rfl
theorem ag15 : tag Try.prog 15 = some none := by kernel_rfl
theorem zc15 : tzc Try.prog 15 = some [(.ptr none)] := by kernel_rfl
theorem sr15 : tsrc Try.prog 15 = true := by kernel_rfl
theorem sz16 : tsz Try.prog 16 = some 1 := by kernel_rfl
theorem ag16 : tag Try.prog 16 = some none := by kernel_rfl
theorem zc16 : tzc Try.prog 16 = some [(.ptr none)] := by kernel_rfl
theorem sr16 : tsrc Try.prog 16 = true := by kernel_rfl
theorem sz17 : tsz Try.prog 17 = some 1 := by kernel_rfl
theorem ag17 : tag Try.prog 17 = some none := by kernel_rfl
theorem zc17 : tzc Try.prog 17 = some [(.ptr none)] := by kernel_rfl
theorem sr17 : tsrc Try.prog 17 = true := by kernel_rfl
theorem sz18 : tsz Try.prog 18 = some 1 := by kernel_rfl
theorem ag18 : tag Try.prog 18 = some (some 1) := by kernel_rfl
theorem zc18 : tzc Try.prog 18 = some [(.ptr none)] := by kernel_rfl
theorem sr18 : tsrc Try.prog 18 = true := by kernel_rfl
theorem fd18_0 : tfd Try.prog 18 0 = some (0, 17) := by kernel_rfl
theorem fo18_0 : tfo Try.prog 18 0 = some 0 := by kernel_rfl
theorem pl18 : tpl Try.prog 18 = some [(0, 1)] := by kernel_rfl
theorem bd18 (ps : List (Nat × AV)) (K : AV → Prop) : aBuild Try.prog 18 ps K = aBld (tpl Try.prog 18) (tzc Try.prog 18) ps K := aBuild_eq (by rw [pl18]; rfl) ps K
theorem sz19 : tsz Try.prog 19 = some 1 := by kernel_rfl
theorem ag19 : tag Try.prog 19 = some (some 1) := by kernel_rfl
theorem zc19 : tzc Try.prog 19 = some [(.ptr none)] := by kernel_rfl
theorem sr19 : tsrc Try.prog 19 = true := by kernel_rfl
theorem fd19_0 : tfd Try.prog 19 0 = some (0, 17) := by kernel_rfl
theorem fo19_0 : tfo Try.prog 19 0 = some 0 := by kernel_rfl
theorem pl19 : tpl Try.prog 19 = some [(0, 1)] := by kernel_rfl
theorem bd19 (ps : List (Nat × AV)) (K : AV → Prop) : aBuild Try.prog 19 ps K = aBld (tpl Try.prog 19) (tzc Try.prog 19) ps K := aBuild_eq (by rw [pl19]; rfl) ps K
theorem sz20 : tsz Try.prog 20 = some 1 := by kernel_rfl
theorem ag20 : tag Try.prog 20 = some none := by kernel_rfl
theorem zc20 : tzc Try.prog 20 = some [.nilIface] := by kernel_rfl
theorem sr20 : tsrc Try.prog 20 = true := by kernel_rfl
theorem sz21 : tsz Try.prog 21 = some 1 := by kernel_rfl
theorem ag21 : tag Try.prog 21 = some none := by kernel_rfl
theorem zc21 : tzc Try.prog 21 = some [(.int .i32 0)] := by kernel_rfl
theorem sr21 : tsrc Try.prog 21 = false := by kernel_rfl
theorem sz22 : tsz Try.prog 22 = some 1 := by kernel_rfl
theorem ag22 : tag Try.prog 22 = some none := by kernel_rfl
theorem zc22 : tzc Try.prog 22 = some [(.sl [] .full)] := by kernel_rfl
theorem sr22 : tsrc Try.prog 22 = true := by kernel_rfl
theorem el22 : tel Try.prog 22 = some (none, 3) := by kernel_rfl
theorem cu22 : tcut Try.prog 22 = some (some 3) := by kernel_rfl
theorem ap22 : tap Try.prog 22 = some (3, 40) := by kernel_rfl
theorem bs22 : tbs Try.prog 22 = some 3 := by kernel_rfl
theorem ms22 : tms Try.prog 22 = some (3, 40, [(.int .i64 0), (.int .i64 0), (.sl [] .full)], 24) := by kernel_rfl
theorem mm22 (l c : AV) (h : AH) (K : AV → AH → Prop) : aMakeSlice Try.prog 22 l c h K = aMkT (tms Try.prog 22) l c h K := aMakeSlice_eq (by rw [ms22]; rfl) l c K
theorem mc22 (x : AV) (h : AH) (K : AV → AH → Prop) : aClear Try.prog 22 x h K = aClT (tms Try.prog 22) x h K := aClear_eq (by rw [ms22]; rfl) x K
theorem mb22 (n : Nat) (ps : List (Nat × AV)) (h : AH) (K : AV → AH → Prop) : aBuildSliceM Try.prog 22 n ps h K = aBsM (tms Try.prog 22) n ps h K := aBuildSliceM_eq (by rw [ms22]; rfl) n ps K
theorem ma22 (s x : AV) (h : AH) (K : AV → AH → Prop) : aAppendM Try.prog 22 22 s x h K = aApM (tms Try.prog 22) s x h K := aAppendM_eq sr22 (by rw [ms22]; rfl) s x K
theorem ae22_22 (s x : AV) (h : AH) (K : AV → AH → Prop) : aAppend Try.prog 22 22 s x h K = aAp (tap Try.prog 22) s x h K := aAppend_eq sr22 s x K
theorem ln22 : tlen Try.prog 22 = some .sl := by kernel_rfl
theorem sz23 : tsz Try.prog 23 = some 3 := by kernel_rfl
theorem ag23 : tag Try.prog 23 = some (some 3) := by kernel_rfl
theorem zc23 : tzc Try.prog 23 = some [(.int .i64 0), (.int .i64 0), (.sl [] .full)] := by kernel_rfl
theorem sr23 : tsrc Try.prog 23 = true := by kernel_rfl
theorem fd23_0 : tfd Try.prog 23 0 = some (0, 3) := by kernel_rfl
theorem fo23_0 : tfo Try.prog 23 0 = some 0 := by kernel_rfl
theorem fd23_1 : tfd Try.prog 23 1 = some (1, 3) := by kernel_rfl
theorem fo23_1 : tfo Try.prog 23 1 = some 1 := by kernel_rfl
theorem fd23_2 : tfd Try.prog 23 2 = some (2, 22) := by kernel_rfl
theorem fo23_2 : tfo Try.prog 23 2 = some 2 := by kernel_rfl
theorem pl23 : tpl Try.prog 23 = some [(0, 1), (1, 1), (2, 1)] := by kernel_rfl
theorem bd23 (ps : List (Nat × AV)) (K : AV → Prop) : aBuild Try.prog 23 ps K = aBld (tpl Try.prog 23) (tzc Try.prog 23) ps K := aBuild_eq (by rw [pl23]; rfl) ps K
theorem sz24 : tsz Try.prog 24 = some 3 := by kernel_rfl
theorem ag24 : tag Try.prog 24 = some (some 3) := by kernel_rfl
theorem zc24 : tzc Try.prog 24 = some [(.int .i64 0), (.int .i64 0), (.sl [] .full)] := by kernel_rfl
theorem sr24 : tsrc Try.prog 24 = true := by kernel_rfl
theorem fd24_0 : tfd Try.prog 24 0 = some (0, 3) := by kernel_rfl
theorem fo24_0 : tfo Try.prog 24 0 = some 0 := by kernel_rfl
theorem fd24_1 : tfd Try.prog 24 1 = some (1, 3) := by kernel_rfl
theorem fo24_1 : tfo Try.prog 24 1 = some 1 := by kernel_rfl
theorem fd24_2 : tfd Try.prog 24 2 = some (2, 22) := by kernel_rfl
theorem fo24_2 : tfo Try.prog 24 2 = some 2 := by kernel_rfl
theorem pl24 : tpl Try.prog 24 = some [(0, 1), (1, 1), (2, 1)] := by kernel_rfl
theorem bd24 (ps : List (Nat × AV)) (K : AV → Prop) : aBuild Try.prog 24 ps K = aBld (tpl Try.prog 24) (tzc Try.prog 24) ps K := aBuild_eq (by rw [pl24]; rfl) ps K
theorem sz25 : tsz Try.prog 25 = some 1 := by kernel_rfl
theorem ag25 : tag Try.prog 25 = some none := by kernel_rfl
theorem zc25 : tzc Try.prog 25 = some [(.sl [] .full)] := by kernel_rfl
theorem sr25 : tsrc Try.prog 25 = true := by kernel_rfl
theorem el25 : tel Try.prog 25 = some (none, 1) := by kernel_rfl
theorem cu25 : tcut Try.prog 25 = some (some 1) := by kernel_rfl
theorem ap25 : tap Try.prog 25 = some (1, 8) := by kernel_rfl
theorem bs25 : tbs Try.prog 25 = some 1 := by kernel_rfl
theorem ms25 : tms Try.prog 25 = some (1, 8, [(.int .i64 0)], 3) := by kernel_rfl
theorem mm25 (l c : AV) (h : AH) (K : AV → AH → Prop) : aMakeSlice Try.prog 25 l c h K = aMkT (tms Try.prog 25) l c h K := aMakeSlice_eq (by rw [ms25]; rfl) l c K
theorem mc25 (x : AV) (h : AH) (K : AV → AH → Prop) : aClear Try.prog 25 x h K = aClT (tms Try.prog 25) x h K := aClear_eq (by rw [ms25]; rfl) x K
theorem mb25 (n : Nat) (ps : List (Nat × AV)) (h : AH) (K : AV → AH → Prop) : aBuildSliceM Try.prog 25 n ps h K = aBsM (tms Try.prog 25) n ps h K := aBuildSliceM_eq (by rw [ms25]; rfl) n ps K
theorem ma25 (s x : AV) (h : AH) (K : AV → AH → Prop) : aAppendM Try.prog 25 25 s x h K = aApM (tms Try.prog 25) s x h K := aAppendM_eq sr25 (by rw [ms25]; rfl) s x K
theorem ae25_25 (s x : AV) (h : AH) (K : AV → AH → Prop) : aAppend Try.prog 25 25 s x h K = aAp (tap Try.prog 25) s x h K := aAppend_eq sr25 s x K
theorem ln25 : tlen Try.prog 25 = some .sl := by kernel_rfl
theorem sz26 : tsz Try.prog 26 = some 1 := by kernel_rfl
theorem ag26 : tag Try.prog 26 = some none := by kernel_rfl
theorem zc26 : tzc Try.prog 26 = some [.nilFunc] := by kernel_rfl
theorem sr26 : tsrc Try.prog 26 = true := by kernel_rfl
theorem sz27 : tsz Try.prog 27 = some 1 := by kernel_rfl
theorem ag27 : tag Try.prog 27 = some none := by kernel_rfl
theorem zc27 : tzc Try.prog 27 = some [.nilFunc] := by kernel_rfl
theorem sr27 : tsrc Try.prog 27 = true := by kernel_rfl
theorem sz28 : tsz Try.prog 28 = some 1 := by kernel_rfl
theorem ag28 : tag Try.prog 28 = some none := by kernel_rfl
theorem zc28 : tzc Try.prog 28 = some [(.int .i64 0)] := by kernel_rfl
theorem sr28 : tsrc Try.prog 28 = false := by kernel_rfl
theorem sz30 : tsz Try.prog 30 = some 1 := by kernel_rfl
theorem ag30 : tag Try.prog 30 = some none := by kernel_rfl
theorem zc30 : tzc Try.prog 30 = some [.nilFunc] := by kernel_rfl
theorem sr30 : tsrc Try.prog 30 = true := by kernel_rfl
theorem sz31 : tsz Try.prog 31 = some 1 := by kernel_rfl
theorem ag31 : tag Try.prog 31 = some none := by kernel_rfl
theorem zc31 : tzc Try.prog 31 = some [.nilFunc] := by kernel_rfl
theorem sr31 : tsrc Try.prog 31 = true := by kernel_rfl
theorem sz33 : tsz Try.prog 33 = some 1 := by kernel_rfl
theorem ag33 : tag Try.prog 33 = some none := by kernel_rfl
theorem zc33 : tzc Try.prog 33 = some [.nilFunc] := by kernel_rfl
theorem sr33 : tsrc Try.prog 33 = true := by kernel_rfl
theorem sz34 : tsz Try.prog 34 = some 1 := by kernel_rfl
theorem ag34 : tag Try.prog 34 = some none := by kernel_rfl
theorem zc34 : tzc Try.prog 34 = some [.nilFunc] := by kernel_rfl
theorem sr34 : tsrc Try.prog 34 = true := by kernel_rfl
theorem sz35 : tsz Try.prog 35 = some 1 := by kernel_rfl
theorem ag35 : tag Try.prog 35 = some none := by kernel_rfl
theorem zc35 : tzc Try.prog 35 = some [.nilFunc] := by kernel_rfl
theorem sr35 : tsrc Try.prog 35 = true := by kernel_rfl
theorem sz36 : tsz Try.prog 36 = some 1 := by kernel_rfl
theorem ag36 : tag Try.prog 36 = some none := by kernel_rfl
theorem zc36 : tzc Try.prog 36 = some [.nilFunc] := by kernel_rfl
theorem sr36 : tsrc Try.prog 36 = true := by kernel_rfl
theorem sz37 : tsz Try.prog 37 = some 1 := by kernel_rfl
theorem ag37 : tag Try.prog 37 = some none := by kernel_rfl
theorem zc37 : tzc Try.prog 37 = some [.nilFunc] := by kernel_rfl
theorem sr37 : tsrc Try.prog 37 = true := by kernel_rfl
theorem sz38 : tsz Try.prog 38 = some 1 := by kernel_rfl
theorem ag38 : tag Try.prog 38 = some none := by kernel_rfl
theorem zc38 : tzc Try.prog 38 = some [.nilFunc] := by kernel_rfl
theorem sr38 : tsrc Try.prog 38 = true := by kernel_rfl
theorem sz39 : tsz Try.prog 39 = some 1 := by kernel_rfl
theorem ag39 : tag Try.prog 39 = some none := by kernel_rfl
theorem zc39 : tzc Try.prog 39 = some [.nilFunc] := by kernel_rfl
theorem sr39 : tsrc Try.prog 39 = true := by kernel_rfl
theorem sz40 : tsz Try.prog 40 = some 1 := by kernel_rfl
theorem ag40 : tag Try.prog 40 = some none := by kernel_rfl
theorem zc40 : tzc Try.prog 40 = some [(.sl [] .full)] := by kernel_rfl
theorem sr40 : tsrc Try.prog 40 = true := by kernel_rfl
theorem el40 : tel Try.prog 40 = some (none, 1) := by kernel_rfl
theorem cu40 : tcut Try.prog 40 = some (some 1) := by kernel_rfl
theorem ap40 : tap Try.prog 40 = some (1, 24) := by kernel_rfl
theorem bs40 : tbs Try.prog 40 = some 1 := by kernel_rfl
theorem ms40 : tms Try.prog 40 = some (1, 24, [(.sl [] .full)], 25) := by kernel_rfl
theorem mm40 (l c : AV) (h : AH) (K : AV → AH → Prop) : aMakeSlice Try.prog 40 l c h K = aMkT (tms Try.prog 40) l c h K := aMakeSlice_eq (by rw [ms40]; rfl) l c K
theorem mc40 (x : AV) (h : AH) (K : AV → AH → Prop) : aClear Try.prog 40 x h K = aClT (tms Try.prog 40) x h K := aClear_eq (by rw [ms40]; rfl) x K
theorem mb40 (n : Nat) (ps : List (Nat × AV)) (h : AH) (K : AV → AH → Prop) : aBuildSliceM Try.prog 40 n ps h K = aBsM (tms Try.prog 40) n ps h K := aBuildSliceM_eq (by rw [ms40]; rfl) n ps K
theorem ma40 (s x : AV) (h : AH) (K : AV → AH → Prop) : aAppendM Try.prog 40 40 s x h K = aApM (tms Try.prog 40) s x h K := aAppendM_eq sr40 (by rw [ms40]; rfl) s x K
theorem ae40_40 (s x : AV) (h : AH) (K : AV → AH → Prop) : aAppend Try.prog 40 40 s x h K = aAp (tap Try.prog 40) s x h K := aAppend_eq sr40 s x K
theorem ln40 : tlen Try.prog 40 = some .sl := by kernel_rfl
theorem sz42 : tsz Try.prog 42 = some 1 := by kernel_rfl
theorem ag42 : tag Try.prog 42 = some none := by kernel_rfl
theorem zc42 : tzc Try.prog 42 = some [.nilFunc] := by kernel_rfl
theorem sr42 : tsrc Try.prog 42 = true := by kernel_rfl
theorem sz43 : tsz Try.prog 43 = some 1 := by kernel_rfl
theorem ag43 : tag Try.prog 43 = some none := by kernel_rfl
theorem zc43 : tzc Try.prog 43 = some [.nilFunc] := by kernel_rfl
theorem sr43 : tsrc Try.prog 43 = true := by kernel_rfl
theorem sz44 : tsz Try.prog 44 = some 1 := by kernel_rfl
theorem ag44 : tag Try.prog 44 = some none := by kernel_rfl
theorem zc44 : tzc Try.prog 44 = some [.nilFunc] := by kernel_rfl
theorem sr44 : tsrc Try.prog 44 = true := by kernel_rfl
theorem sz45 : tsz Try.prog 45 = some 1 := by kernel_rfl
theorem ag45 : tag Try.prog 45 = some none := by kernel_rfl
theorem zc45 : tzc Try.prog 45 = some [.nilFunc] := by kernel_rfl
theorem sr45 : tsrc Try.prog 45 = true := by kernel_rfl
theorem sz46 : tsz Try.prog 46 = some 1 := by kernel_rfl
theorem ag46 : tag Try.prog 46 = some none := by kernel_rfl
theorem zc46 : tzc Try.prog 46 = some [.nilFunc] := by kernel_rfl
theorem sr46 : tsrc Try.prog 46 = true := by kernel_rfl
theorem sz48 : tsz Try.prog 48 = some 1 := by kernel_rfl
theorem ag48 : tag Try.prog 48 = some none := by kernel_rfl
theorem zc48 : tzc Try.prog 48 = some [.nilFunc] := by kernel_rfl
theorem sr48 : tsrc Try.prog 48 = true := by kernel_rfl
theorem sz49 : tsz Try.prog 49 = some 1 := by kernel_rfl
theorem ag49 : tag Try.prog 49 = some none := by kernel_rfl
theorem zc49 : tzc Try.prog 49 = some [.nilFunc] := by kernel_rfl
theorem sr49 : tsrc Try.prog 49 = true := by kernel_rfl
theorem sz50 : tsz Try.prog 50 = some 1 := by kernel_rfl
theorem ag50 : tag Try.prog 50 = some none := by kernel_rfl
theorem zc50 : tzc Try.prog 50 = some [.nilFunc] := by kernel_rfl
theorem sr50 : tsrc Try.prog 50 = true := by kernel_rfl
theorem sz51 : tsz Try.prog 51 = some 1 := by kernel_rfl
theorem ag51 : tag Try.prog 51 = some none := by kernel_rfl
theorem zc51 : tzc Try.prog 51 = some [(.sl [] .full)] := by kernel_rfl
theorem sr51 : tsrc Try.prog 51 = true := by kernel_rfl
theorem el51 : tel Try.prog 51 = some (none, 1) := by kernel_rfl
theorem cu51 : tcut Try.prog 51 = some (some 1) := by kernel_rfl
theorem ap51 : tap Try.prog 51 = some (1, 24) := by kernel_rfl
theorem bs51 : tbs Try.prog 51 = some 1 := by kernel_rfl
theorem ms51 : tms Try.prog 51 = some (1, 24, [(.sl [] .full)], 40) := by kernel_rfl
theorem mm51 (l c : AV) (h : AH) (K : AV → AH → Prop) : aMakeSlice Try.prog 51 l c h K = aMkT (tms Try.prog 51) l c h K := aMakeSlice_eq (by rw [ms51]; rfl) l c K
theorem mc51 (x : AV) (h : AH) (K : AV → AH → Prop) : aClear Try.prog 51 x h K = aClT (tms Try.prog 51) x h K := aClear_eq (by rw [ms51]; rfl) x K
theorem mb51 (n : Nat) (ps : List (Nat × AV)) (h : AH) (K : AV → AH → Prop) : aBuildSliceM Try.prog 51 n ps h K = aBsM (tms Try.prog 51) n ps h K := aBuildSliceM_eq (by rw [ms51]; rfl) n ps K
theorem ma51 (s x : AV) (h : AH) (K : AV → AH → Prop) : aAppendM Try.prog 51 51 s x h K = aApM (tms Try.prog 51) s x h K := aAppendM_eq sr51 (by rw [ms51]; rfl) s x K
theorem ae51_51 (s x : AV) (h : AH) (K : AV → AH → Prop) : aAppend Try.prog 51 51 s x h K = aAp (tap Try.prog 51) s x h K := aAppend_eq sr51 s x K
theorem ln51 : tlen Try.prog 51 = some .sl := by kernel_rfl
theorem sz52 : tsz Try.prog 52 = some 1 := by kernel_rfl
theorem ag52 : tag Try.prog 52 = some none := by kernel_rfl
theorem zc52 : tzc Try.prog 52 = some [.nilFunc] := by kernel_rfl
theorem sr52 : tsrc Try.prog 52 = true := by kernel_rfl
theorem sz53 : tsz Try.prog 53 = some 1 := by kernel_rfl
theorem ag53 : tag Try.prog 53 = some none := by kernel_rfl
theorem zc53 : tzc Try.prog 53 = some [(.int .u16 0)] := by kernel_rfl
theorem sr53 : tsrc Try.prog 53 = false := by kernel_rfl
theorem sz54 : tsz Try.prog 54 = some 1 := by kernel_rfl
theorem ag54 : tag Try.prog 54 = some none := by kernel_rfl
theorem zc54 : tzc Try.prog 54 = some [.nilFunc] := by kernel_rfl
theorem sr54 : tsrc Try.prog 54 = true := by kernel_rfl
theorem sz55 : tsz Try.prog 55 = some 1 := by kernel_rfl
theorem ag55 : tag Try.prog 55 = some none := by kernel_rfl
theorem zc55 : tzc Try.prog 55 = some [.nilFunc] := by kernel_rfl
theorem sr55 : tsrc Try.prog 55 = true := by kernel_rfl
theorem sz56 : tsz Try.prog 56 = some 1 := by kernel_rfl
theorem ag56 : tag Try.prog 56 = some none := by kernel_rfl
theorem zc56 : tzc Try.prog 56 = some [(.map none)] := by kernel_rfl
theorem sr56 : tsrc Try.prog 56 = true := by kernel_rfl
theorem ln56 : tlen Try.prog 56 = some .map := by kernel_rfl
theorem mk56 : tmk Try.prog 56 = some (true, (.int .i64 0)) := by kernel_rfl
theorem sz57 : tsz Try.prog 57 = some 1 := by kernel_rfl
theorem ag57 : tag Try.prog 57 = some none := by kernel_rfl
theorem zc57 : tzc Try.prog 57 = some [.nilFunc] := by kernel_rfl
theorem sr57 : tsrc Try.prog 57 = true := by kernel_rfl
theorem sz58 : tsz Try.prog 58 = some 1 := by kernel_rfl
theorem ag58 : tag Try.prog 58 = some none := by kernel_rfl
theorem zc58 : tzc Try.prog 58 = some [.nilFunc] := by kernel_rfl
theorem sr58 : tsrc Try.prog 58 = true := by kernel_rfl
theorem sz59 : tsz Try.prog 59 = some 10 := by kernel_rfl
theorem ag59 : tag Try.prog 59 = some (some 10) := by kernel_rfl
theorem zc59 : tzc Try.prog 59 = some [(.int .i64 0), (.int .i64 0), (.sl [] .full), (.sl [] .full), (.sl [] .full), (.sl [] .full), (.sl [] .full), (.bool false), (.bool false), (.bool false)] := by kernel_rfl
theorem sr59 : tsrc Try.prog 59 = true := by kernel_rfl
theorem fd59_0 : tfd Try.prog 59 0 = some (0, 24) := by kernel_rfl
theorem fo59_0 : tfo Try.prog 59 0 = some 0 := by kernel_rfl
theorem fd59_1 : tfd Try.prog 59 1 = some (3, 25) := by kernel_rfl
theorem fo59_1 : tfo Try.prog 59 1 = some 3 := by kernel_rfl
theorem fd59_2 : tfd Try.prog 59 2 = some (4, 25) := by kernel_rfl
theorem fo59_2 : tfo Try.prog 59 2 = some 4 := by kernel_rfl
theorem fd59_3 : tfd Try.prog 59 3 = some (5, 25) := by kernel_rfl
theorem fo59_3 : tfo Try.prog 59 3 = some 5 := by kernel_rfl
theorem fd59_4 : tfd Try.prog 59 4 = some (6, 25) := by kernel_rfl
theorem fo59_4 : tfo Try.prog 59 4 = some 6 := by kernel_rfl
theorem fd59_5 : tfd Try.prog 59 5 = some (7, 4) := by kernel_rfl
theorem fo59_5 : tfo Try.prog 59 5 = some 7 := by kernel_rfl
theorem fd59_6 : tfd Try.prog 59 6 = some (8, 4) := by kernel_rfl
theorem fo59_6 : tfo Try.prog 59 6 = some 8 := by kernel_rfl
theorem fd59_7 : tfd Try.prog 59 7 = some (9, 4) := by kernel_rfl
theorem fo59_7 : tfo Try.prog 59 7 = some 9 := by kernel_rfl
theorem pl59 : tpl Try.prog 59 = some [(0, 3), (3, 1), (4, 1), (5, 1), (6, 1), (7, 1), (8, 1), (9, 1)] := by kernel_rfl
theorem bd59 (ps : List (Nat × AV)) (K : AV → Prop) : aBuild Try.prog 59 ps K = aBld (tpl Try.prog 59) (tzc Try.prog 59) ps K := aBuild_eq (by rw [pl59]; rfl) ps K
theorem sz60 : tsz Try.prog 60 = some 1 := by kernel_rfl
theorem ag60 : tag Try.prog 60 = some none := by kernel_rfl
theorem zc60 : tzc Try.prog 60 = some [(.sl [] .full)] := by kernel_rfl
theorem sr60 : tsrc Try.prog 60 = true := by kernel_rfl
theorem el60 : tel Try.prog 60 = some (none, 10) := by kernel_rfl
theorem cu60 : tcut Try.prog 60 = some (some 10) := by kernel_rfl
theorem ap60 : tap Try.prog 60 = some (10, 144) := by kernel_rfl
theorem bs60 : tbs Try.prog 60 = some 10 := by kernel_rfl
theorem ms60 : tms Try.prog 60 = some (10, 144, [(.int .i64 0), (.int .i64 0), (.sl [] .full), (.sl [] .full), (.sl [] .full), (.sl [] .full), (.sl [] .full), (.bool false), (.bool false), (.bool false)], 59) := by kernel_rfl
theorem mm60 (l c : AV) (h : AH) (K : AV → AH → Prop) : aMakeSlice Try.prog 60 l c h K = aMkT (tms Try.prog 60) l c h K := aMakeSlice_eq (by rw [ms60]; rfl) l c K
theorem mc60 (x : AV) (h : AH) (K : AV → AH → Prop) : aClear Try.prog 60 x h K = aClT (tms Try.prog 60) x h K := aClear_eq (by rw [ms60]; rfl) x K
theorem mb60 (n : Nat) (ps : List (Nat × AV)) (h : AH) (K : AV → AH → Prop) : aBuildSliceM Try.prog 60 n ps h K = aBsM (tms Try.prog 60) n ps h K := aBuildSliceM_eq (by rw [ms60]; rfl) n ps K
theorem ma60 (s x : AV) (h : AH) (K : AV → AH → Prop) : aAppendM Try.prog 60 60 s x h K = aApM (tms Try.prog 60) s x h K := aAppendM_eq sr60 (by rw [ms60]; rfl) s x K
theorem ae60_60 (s x : AV) (h : AH) (K : AV → AH → Prop) : aAppend Try.prog 60 60 s x h K = aAp (tap Try.prog 60) s x h K := aAppend_eq sr60 s x K
theorem ln60 : tlen Try.prog 60 = some .sl := by kernel_rfl
theorem sz61 : tsz Try.prog 61 = some 4 := by kernel_rfl
theorem ag61 : tag Try.prog 61 = some (some 4) := by kernel_rfl
theorem zc61 : tzc Try.prog 61 = some [(.int .i64 0), (.int .i64 0), (.sl [] .full), (.sl [] .full)] := by kernel_rfl
theorem sr61 : tsrc Try.prog 61 = true := by kernel_rfl
theorem fd61_0 : tfd Try.prog 61 0 = some (0, 24) := by kernel_rfl
theorem fo61_0 : tfo Try.prog 61 0 = some 0 := by kernel_rfl
theorem fd61_1 : tfd Try.prog 61 1 = some (3, 25) := by kernel_rfl
theorem fo61_1 : tfo Try.prog 61 1 = some 3 := by kernel_rfl
theorem pl61 : tpl Try.prog 61 = some [(0, 3), (3, 1)] := by kernel_rfl
theorem bd61 (ps : List (Nat × AV)) (K : AV → Prop) : aBuild Try.prog 61 ps K = aBld (tpl Try.prog 61) (tzc Try.prog 61) ps K := aBuild_eq (by rw [pl61]; rfl) ps K
theorem sz62 : tsz Try.prog 62 = some 4 := by kernel_rfl
theorem ag62 : tag Try.prog 62 = some (some 4) := by kernel_rfl
theorem zc62 : tzc Try.prog 62 = some [(.int .i64 0), (.int .i64 0), (.sl [] .full), (.sl [] .full)] := by kernel_rfl
theorem sr62 : tsrc Try.prog 62 = true := by kernel_rfl
theorem fd62_0 : tfd Try.prog 62 0 = some (0, 24) := by kernel_rfl
theorem fo62_0 : tfo Try.prog 62 0 = some 0 := by kernel_rfl
theorem fd62_1 : tfd Try.prog 62 1 = some (3, 25) := by kernel_rfl
theorem fo62_1 : tfo Try.prog 62 1 = some 3 := by kernel_rfl
theorem pl62 : tpl Try.prog 62 = some [(0, 3), (3, 1)] := by kernel_rfl
theorem bd62 (ps : List (Nat × AV)) (K : AV → Prop) : aBuild Try.prog 62 ps K = aBld (tpl Try.prog 62) (tzc Try.prog 62) ps K := aBuild_eq (by rw [pl62]; rfl) ps K
theorem sz64 : tsz Try.prog 64 = some 1 := by kernel_rfl
theorem ag64 : tag Try.prog 64 = some none := by kernel_rfl
theorem zc64 : tzc Try.prog 64 = some [.nilFunc] := by kernel_rfl
theorem sr64 : tsrc Try.prog 64 = true := by kernel_rfl
theorem sz66 : tsz Try.prog 66 = some 1 := by kernel_rfl
theorem ag66 : tag Try.prog 66 = some none := by kernel_rfl
theorem zc66 : tzc Try.prog 66 = some [.nilFunc] := by kernel_rfl
theorem sr66 : tsrc Try.prog 66 = true := by kernel_rfl
theorem sz67 : tsz Try.prog 67 = some 1 := by kernel_rfl
theorem ag67 : tag Try.prog 67 = some none := by kernel_rfl
theorem zc67 : tzc Try.prog 67 = some [.nilFunc] := by kernel_rfl
theorem sr67 : tsrc Try.prog 67 = true := by kernel_rfl
theorem sz68 : tsz Try.prog 68 = some 1 := by kernel_rfl
theorem ag68 : tag Try.prog 68 = some none := by kernel_rfl
theorem zc68 : tzc Try.prog 68 = some [.nilFunc] := by kernel_rfl
theorem sr68 : tsrc Try.prog 68 = true := by kernel_rfl
theorem sz69 : tsz Try.prog 69 = some 1 := by kernel_rfl
theorem ag69 : tag Try.prog 69 = some none := by kernel_rfl
theorem zc69 : tzc Try.prog 69 = some [.nilFunc] := by kernel_rfl
theorem sr69 : tsrc Try.prog 69 = true := by kernel_rfl
theorem sz70 : tsz Try.prog 70 = some 1 := by kernel_rfl
theorem ag70 : tag Try.prog 70 = some none := by kernel_rfl
theorem zc70 : tzc Try.prog 70 = some [.nilFunc] := by kernel_rfl
theorem sr70 : tsrc Try.prog 70 = true := by kernel_rfl
theorem sz71 : tsz Try.prog 71 = some 1 := by kernel_rfl
theorem ag71 : tag Try.prog 71 = some none := by kernel_rfl
theorem zc71 : tzc Try.prog 71 = some [.nilFunc] := by kernel_rfl
theorem sr71 : tsrc Try.prog 71 = true := by kernel_rfl
theorem sz72 : tsz Try.prog 72 = some 1 := by kernel_rfl
theorem ag72 : tag Try.prog 72 = some none := by kernel_rfl
theorem zc72 : tzc Try.prog 72 = some [.nilFunc] := by kernel_rfl
theorem sr72 : tsrc Try.prog 72 = true := by kernel_rfl
theorem sz73 : tsz Try.prog 73 = some 1 := by kernel_rfl
theorem ag73 : tag Try.prog 73 = some none := by kernel_rfl
theorem zc73 : tzc Try.prog 73 = some [.nilFunc] := by kernel_rfl
theorem sr73 : tsrc Try.prog 73 = true := by kernel_rfl
theorem sz74 : tsz Try.prog 74 = some 1 := by kernel_rfl
theorem ag74 : tag Try.prog 74 = some none := by kernel_rfl
theorem zc74 : tzc Try.prog 74 = some [.nilFunc] := by kernel_rfl
theorem sr74 : tsrc Try.prog 74 = true := by kernel_rfl
theorem sz75 : tsz Try.prog 75 = some 1 := by kernel_rfl
theorem ag75 : tag Try.prog 75 = some none := by kernel_rfl
theorem zc75 : tzc Try.prog 75 = some [.nilFunc] := by kernel_rfl
theorem sr75 : tsrc Try.prog 75 = true := by kernel_rfl
theorem sz76 : tsz Try.prog 76 = some 1 := by kernel_rfl
theorem ag76 : tag Try.prog 76 = some none := by kernel_rfl
theorem zc76 : tzc Try.prog 76 = some [(.int .u64 0)] := by kernel_rfl
theorem sr76 : tsrc Try.prog 76 = false := by kernel_rfl
theorem sz77 : tsz Try.prog 77 = some 1 := by kernel_rfl
theorem ag77 : tag Try.prog 77 = some none := by kernel_rfl
theorem zc77 : tzc Try.prog 77 = some [(.int .u64 0)] := by kernel_rfl
theorem sr77 : tsrc Try.prog 77 = false := by kernel_rfl
theorem sz78 : tsz Try.prog 78 = some 1 := by kernel_rfl
theorem ag78 : tag Try.prog 78 = some none := by kernel_rfl
theorem zc78 : tzc Try.prog 78 = some [.nilFunc] := by kernel_rfl
theorem sr78 : tsrc Try.prog 78 = true := by kernel_rfl
theorem sz79 : tsz Try.prog 79 = some 3 := by kernel_rfl
theorem ag79 : tag Try.prog 79 = some (some 3) := by kernel_rfl
theorem zc79 : tzc Try.prog 79 = some [(.sl [] .full), (.int .u64 0), .nilFunc] := by kernel_rfl
theorem sr79 : tsrc Try.prog 79 = true := by kernel_rfl
theorem fd79_0 : tfd Try.prog 79 0 = some (0, 25) := by kernel_rfl
theorem fo79_0 : tfo Try.prog 79 0 = some 0 := by kernel_rfl
theorem fd79_1 : tfd Try.prog 79 1 = some (1, 77) := by kernel_rfl
theorem fo79_1 : tfo Try.prog 79 1 = some 1 := by kernel_rfl
theorem fd79_2 : tfd Try.prog 79 2 = some (2, 78) := by kernel_rfl
theorem fo79_2 : tfo Try.prog 79 2 = some 2 := by kernel_rfl
theorem pl79 : tpl Try.prog 79 = some [(0, 1), (1, 1), (2, 1)] := by kernel_rfl
theorem bd79 (ps : List (Nat × AV)) (K : AV → Prop) : aBuild Try.prog 79 ps K = aBld (tpl Try.prog 79) (tzc Try.prog 79) ps K := aBuild_eq (by rw [pl79]; rfl) ps K
theorem sz80 : tsz Try.prog 80 = some 3 := by kernel_rfl
theorem ag80 : tag Try.prog 80 = some (some 3) := by kernel_rfl
theorem zc80 : tzc Try.prog 80 = some [(.sl [] .full), (.int .u64 0), .nilFunc] := by kernel_rfl
theorem sr80 : tsrc Try.prog 80 = true := by kernel_rfl
theorem fd80_0 : tfd Try.prog 80 0 = some (0, 25) := by kernel_rfl
theorem fo80_0 : tfo Try.prog 80 0 = some 0 := by kernel_rfl
theorem fd80_1 : tfd Try.prog 80 1 = some (1, 77) := by kernel_rfl
theorem fo80_1 : tfo Try.prog 80 1 = some 1 := by kernel_rfl
theorem fd80_2 : tfd Try.prog 80 2 = some (2, 78) := by kernel_rfl
theorem fo80_2 : tfo Try.prog 80 2 = some 2 := by kernel_rfl
theorem pl80 : tpl Try.prog 80 = some [(0, 1), (1, 1), (2, 1)] := by kernel_rfl
theorem bd80 (ps : List (Nat × AV)) (K : AV → Prop) : aBuild Try.prog 80 ps K = aBld (tpl Try.prog 80) (tzc Try.prog 80) ps K := aBuild_eq (by rw [pl80]; rfl) ps K
theorem sz82 : tsz Try.prog 82 = some 1 := by kernel_rfl
theorem ag82 : tag Try.prog 82 = some none := by kernel_rfl
theorem zc82 : tzc Try.prog 82 = some [.nilFunc] := by kernel_rfl
theorem sr82 : tsrc Try.prog 82 = true := by kernel_rfl
theorem sz83 : tsz Try.prog 83 = some 1 := by kernel_rfl
theorem ag83 : tag Try.prog 83 = some none := by kernel_rfl
theorem zc83 : tzc Try.prog 83 = some [.nilFunc] := by kernel_rfl
theorem sr83 : tsrc Try.prog 83 = true := by kernel_rfl
theorem sz84 : tsz Try.prog 84 = some 1 := by kernel_rfl
theorem ag84 : tag Try.prog 84 = some none := by kernel_rfl
theorem zc84 : tzc Try.prog 84 = some [.nilFunc] := by kernel_rfl
theorem sr84 : tsrc Try.prog 84 = true := by kernel_rfl
theorem sz85 : tsz Try.prog 85 = some 1 := by kernel_rfl
theorem ag85 : tag Try.prog 85 = some none := by kernel_rfl
theorem zc85 : tzc Try.prog 85 = some [(.sl [] .full)] := by kernel_rfl
theorem sr85 : tsrc Try.prog 85 = true := by kernel_rfl
theorem el85 : tel Try.prog 85 = some (none, 1) := by kernel_rfl
theorem cu85 : tcut Try.prog 85 = some (some 1) := by kernel_rfl
theorem ap85 : tap Try.prog 85 = some (1, 8) := by kernel_rfl
theorem bs85 : tbs Try.prog 85 = some 1 := by kernel_rfl
theorem ms85 : tms Try.prog 85 = some (1, 8, [(.int .u64 0)], 77) := by kernel_rfl
theorem mm85 (l c : AV) (h : AH) (K : AV → AH → Prop) : aMakeSlice Try.prog 85 l c h K = aMkT (tms Try.prog 85) l c h K := aMakeSlice_eq (by rw [ms85]; rfl) l c K
theorem mc85 (x : AV) (h : AH) (K : AV → AH → Prop) : aClear Try.prog 85 x h K = aClT (tms Try.prog 85) x h K := aClear_eq (by rw [ms85]; rfl) x K
theorem mb85 (n : Nat) (ps : List (Nat × AV)) (h : AH) (K : AV → AH → Prop) : aBuildSliceM Try.prog 85 n ps h K = aBsM (tms Try.prog 85) n ps h K := aBuildSliceM_eq (by rw [ms85]; rfl) n ps K
theorem ma85 (s x : AV) (h : AH) (K : AV → AH → Prop) : aAppendM Try.prog 85 85 s x h K = aApM (tms Try.prog 85) s x h K := aAppendM_eq sr85 (by rw [ms85]; rfl) s x K
theorem ae85_85 (s x : AV) (h : AH) (K : AV → AH → Prop) : aAppend Try.prog 85 85 s x h K = aAp (tap Try.prog 85) s x h K := aAppend_eq sr85 s x K
theorem ln85 : tlen Try.prog 85 = some .sl := by kernel_rfl
theorem sz87 : tsz Try.prog 87 = some 1 := by kernel_rfl
theorem ag87 : tag Try.prog 87 = some none := by kernel_rfl
theorem zc87 : tzc Try.prog 87 = some [.nilFunc] := by kernel_rfl
theorem sr87 : tsrc Try.prog 87 = true := by kernel_rfl
theorem sz88 : tsz Try.prog 88 = some 1 := by kernel_rfl
theorem ag88 : tag Try.prog 88 = some none := by kernel_rfl
theorem zc88 : tzc Try.prog 88 = some [.nilFunc] := by kernel_rfl
theorem sr88 : tsrc Try.prog 88 = true := by kernel_rfl
theorem sz89 : tsz Try.prog 89 = some 1 := by kernel_rfl
theorem ag89 : tag Try.prog 89 = some none := by kernel_rfl
theorem zc89 : tzc Try.prog 89 = some [.nilFunc] := by kernel_rfl
theorem sr89 : tsrc Try.prog 89 = true := by kernel_rfl
theorem sz90 : tsz Try.prog 90 = some 1 := by kernel_rfl
theorem ag90 : tag Try.prog 90 = some none := by kernel_rfl
theorem zc90 : tzc Try.prog 90 = some [(.map none)] := by kernel_rfl
theorem sr90 : tsrc Try.prog 90 = true := by kernel_rfl
theorem ln90 : tlen Try.prog 90 = some .map := by kernel_rfl
theorem mk90 : tmk Try.prog 90 = some (true, (.bool false)) := by kernel_rfl
theorem sz91 : tsz Try.prog 91 = some 1 := by kernel_rfl
theorem ag91 : tag Try.prog 91 = some none := by kernel_rfl
theorem zc91 : tzc Try.prog 91 = some [.nilFunc] := by kernel_rfl
theorem sr91 : tsrc Try.prog 91 = true := by kernel_rfl
theorem sz92 : tsz Try.prog 92 = some 1 := by kernel_rfl
theorem ag92 : tag Try.prog 92 = some none := by kernel_rfl
theorem zc92 : tzc Try.prog 92 = some [.nilFunc] := by kernel_rfl
theorem sr92 : tsrc Try.prog 92 = true := by kernel_rfl
theorem sz93 : tsz Try.prog 93 = some 1 := by kernel_rfl
theorem ag93 : tag Try.prog 93 = some none := by kernel_rfl
theorem zc93 : tzc Try.prog 93 = some [.nilFunc] := by kernel_rfl
theorem sr93 : tsrc Try.prog 93 = true := by kernel_rfl
theorem sz94 : tsz Try.prog 94 = some 1 := by kernel_rfl
theorem ag94 : tag Try.prog 94 = some none := by kernel_rfl
theorem zc94 : tzc Try.prog 94 = some [.nilFunc] := by kernel_rfl
theorem sr94 : tsrc Try.prog 94 = true := by kernel_rfl
theorem sz95 : tsz Try.prog 95 = some 1 := by kernel_rfl
theorem ag95 : tag Try.prog 95 = some none := by kernel_rfl
theorem zc95 : tzc Try.prog 95 = some [.nilFunc] := by kernel_rfl
theorem sr95 : tsrc Try.prog 95 = true := by kernel_rfl
theorem sz96 : tsz Try.prog 96 = some 1 := by kernel_rfl
theorem ag96 : tag Try.prog 96 = some none := by kernel_rfl
theorem zc96 : tzc Try.prog 96 = some [.nilFunc] := by kernel_rfl
theorem sr96 : tsrc Try.prog 96 = true := by kernel_rfl
theorem sz97 : tsz Try.prog 97 = some 1 := by kernel_rfl
theorem ag97 : tag Try.prog 97 = some none := by kernel_rfl
theorem zc97 : tzc Try.prog 97 = some [.nilFunc] := by kernel_rfl
theorem sr97 : tsrc Try.prog 97 = true := by kernel_rfl
theorem sz98 : tsz Try.prog 98 = some 1 := by kernel_rfl
theorem ag98 : tag Try.prog 98 = some none := by kernel_rfl
theorem zc98 : tzc Try.prog 98 = some [.nilFunc] := by kernel_rfl
theorem sr98 : tsrc Try.prog 98 = true := by kernel_rfl
theorem sz99 : tsz Try.prog 99 = some 1 := by kernel_rfl
theorem ag99 : tag Try.prog 99 = some none := by kernel_rfl
theorem zc99 : tzc Try.prog 99 = some [.nilFunc] := by kernel_rfl
theorem sr99 : tsrc Try.prog 99 = true := by kernel_rfl
theorem sz100 : tsz Try.prog 100 = some 1 := by kernel_rfl
theorem ag100 : tag Try.prog 100 = some none := by kernel_rfl
theorem zc100 : tzc Try.prog 100 = some [.nilFunc] := by kernel_rfl
theorem sr100 : tsrc Try.prog 100 = true := by kernel_rfl
theorem sz101 : tsz Try.prog 101 = some 1 := by kernel_rfl
theorem ag101 : tag Try.prog 101 = some none := by kernel_rfl
theorem zc101 : tzc Try.prog 101 = some [.nilFunc] := by kernel_rfl
theorem sr101 : tsrc Try.prog 101 = true := by kernel_rfl
theorem sz102 : tsz Try.prog 102 = some 1 := by kernel_rfl
theorem ag102 : tag Try.prog 102 = some none := by kernel_rfl
theorem zc102 : tzc Try.prog 102 = some [.nilFunc] := by kernel_rfl
theorem sr102 : tsrc Try.prog 102 = true := by kernel_rfl
theorem sz103 : tsz Try.prog 103 = some 1 := by kernel_rfl
theorem ag103 : tag Try.prog 103 = some none := by kernel_rfl
theorem zc103 : tzc Try.prog 103 = some [.nilFunc] := by kernel_rfl
theorem sr103 : tsrc Try.prog 103 = true := by kernel_rfl
theorem sz104 : tsz Try.prog 104 = some 1 := by kernel_rfl
theorem ag104 : tag Try.prog 104 = some none := by kernel_rfl
theorem zc104 : tzc Try.prog 104 = some [.nilFunc] := by kernel_rfl
theorem sr104 : tsrc Try.prog 104 = true := by kernel_rfl
theorem sz105 : tsz Try.prog 105 = some 1 := by kernel_rfl
theorem ag105 : tag Try.prog 105 = some none := by kernel_rfl
theorem zc105 : tzc Try.prog 105 = some [(.sl [] .full)] := by kernel_rfl
theorem sr105 : tsrc Try.prog 105 = true := by kernel_rfl
theorem el105 : tel Try.prog 105 = some (none, 1) := by kernel_rfl
theorem cu105 : tcut Try.prog 105 = some (some 1) := by kernel_rfl
theorem ap105 : tap Try.prog 105 = some (1, 1) := by kernel_rfl
theorem bs105 : tbs Try.prog 105 = some 1 := by kernel_rfl
theorem ms105 : tms Try.prog 105 = some (1, 1, [(.bool false)], 4) := by kernel_rfl
theorem mm105 (l c : AV) (h : AH) (K : AV → AH → Prop) : aMakeSlice Try.prog 105 l c h K = aMkT (tms Try.prog 105) l c h K := aMakeSlice_eq (by rw [ms105]; rfl) l c K
theorem mc105 (x : AV) (h : AH) (K : AV → AH → Prop) : aClear Try.prog 105 x h K = aClT (tms Try.prog 105) x h K := aClear_eq (by rw [ms105]; rfl) x K
theorem mb105 (n : Nat) (ps : List (Nat × AV)) (h : AH) (K : AV → AH → Prop) : aBuildSliceM Try.prog 105 n ps h K = aBsM (tms Try.prog 105) n ps h K := aBuildSliceM_eq (by rw [ms105]; rfl) n ps K
theorem ma105 (s x : AV) (h : AH) (K : AV → AH → Prop) : aAppendM Try.prog 105 105 s x h K = aApM (tms Try.prog 105) s x h K := aAppendM_eq sr105 (by rw [ms105]; rfl) s x K
theorem ae105_105 (s x : AV) (h : AH) (K : AV → AH → Prop) : aAppend Try.prog 105 105 s x h K = aAp (tap Try.prog 105) s x h K := aAppend_eq sr105 s x K
theorem ln105 : tlen Try.prog 105 = some .sl := by kernel_rfl
theorem sz106 : tsz Try.prog 106 = some 1 := by kernel_rfl
theorem ag106 : tag Try.prog 106 = some none := by kernel_rfl
theorem zc106 : tzc Try.prog 106 = some [.nilFunc] := by kernel_rfl
theorem sr106 : tsrc Try.prog 106 = true := by kernel_rfl
theorem sz107 : tsz Try.prog 107 = some 1 := by kernel_rfl
theorem ag107 : tag Try.prog 107 = some none := by kernel_rfl
theorem zc107 : tzc Try.prog 107 = some [.nilFunc] := by kernel_rfl
theorem sr107 : tsrc Try.prog 107 = true := by kernel_rfl
theorem sz108 : tsz Try.prog 108 = some 1 := by kernel_rfl
theorem ag108 : tag Try.prog 108 = some none := by kernel_rfl
theorem zc108 : tzc Try.prog 108 = some [.nilFunc] := by kernel_rfl
theorem sr108 : tsrc Try.prog 108 = true := by kernel_rfl
theorem sz109 : tsz Try.prog 109 = some 1 := by kernel_rfl
theorem ag109 : tag Try.prog 109 = some none := by kernel_rfl
theorem zc109 : tzc Try.prog 109 = some [.nilFunc] := by kernel_rfl
theorem sr109 : tsrc Try.prog 109 = true := by kernel_rfl
theorem sz110 : tsz Try.prog 110 = some 1 := by kernel_rfl
theorem ag110 : tag Try.prog 110 = some none := by kernel_rfl
theorem zc110 : tzc Try.prog 110 = some [.nilFunc] := by kernel_rfl
theorem sr110 : tsrc Try.prog 110 = true := by kernel_rfl
theorem sz111 : tsz Try.prog 111 = some 1 := by kernel_rfl
theorem ag111 : tag Try.prog 111 = some none := by kernel_rfl
theorem zc111 : tzc Try.prog 111 = some [.nilFunc] := by kernel_rfl
theorem sr111 : tsrc Try.prog 111 = true := by kernel_rfl
theorem sz113 : tsz Try.prog 113 = some 1 := by kernel_rfl
theorem ag113 : tag Try.prog 113 = some none := by kernel_rfl
theorem zc113 : tzc Try.prog 113 = some [.nilFunc] := by kernel_rfl
theorem sr113 : tsrc Try.prog 113 = true := by kernel_rfl
theorem sz114 : tsz Try.prog 114 = some 1 := by kernel_rfl
theorem ag114 : tag Try.prog 114 = some none := by kernel_rfl
theorem zc114 : tzc Try.prog 114 = some [.nilFunc] := by kernel_rfl
theorem sr114 : tsrc Try.prog 114 = true := by kernel_rfl
theorem sz115 : tsz Try.prog 115 = some 1 := by kernel_rfl
theorem ag115 : tag Try.prog 115 = some none := by kernel_rfl
theorem zc115 : tzc Try.prog 115 = some [.nilFunc] := by kernel_rfl
theorem sr115 : tsrc Try.prog 115 = true := by kernel_rfl
theorem sz116 : tsz Try.prog 116 = some 1 := by kernel_rfl
theorem ag116 : tag Try.prog 116 = some none := by kernel_rfl
theorem zc116 : tzc Try.prog 116 = some [.nilFunc] := by kernel_rfl
theorem sr116 : tsrc Try.prog 116 = true := by kernel_rfl
theorem sz117 : tsz Try.prog 117 = some 1 := by kernel_rfl
theorem ag117 : tag Try.prog 117 = some none := by kernel_rfl
theorem zc117 : tzc Try.prog 117 = some [.nilFunc] := by kernel_rfl
theorem sr117 : tsrc Try.prog 117 = true := by kernel_rfl
theorem sz118 : tsz Try.prog 118 = some 1 := by kernel_rfl
theorem ag118 : tag Try.prog 118 = some none := by kernel_rfl
theorem zc118 : tzc Try.prog 118 = some [(.int .u32 0)] := by kernel_rfl
theorem sr118 : tsrc Try.prog 118 = false := by kernel_rfl
theorem sz119 : tsz Try.prog 119 = some 1 := by kernel_rfl
theorem ag119 : tag Try.prog 119 = some none := by kernel_rfl
theorem zc119 : tzc Try.prog 119 = some [.nilFunc] := by kernel_rfl
theorem sr119 : tsrc Try.prog 119 = true := by kernel_rfl
theorem sz120 : tsz Try.prog 120 = some 1 := by kernel_rfl
theorem ag120 : tag Try.prog 120 = some none := by kernel_rfl
theorem zc120 : tzc Try.prog 120 = some [(.int .u64 0)] := by kernel_rfl
theorem sr120 : tsrc Try.prog 120 = false := by kernel_rfl
theorem sz121 : tsz Try.prog 121 = some 1 := by kernel_rfl
theorem ag121 : tag Try.prog 121 = some none := by kernel_rfl
theorem zc121 : tzc Try.prog 121 = some [.nilFunc] := by kernel_rfl
theorem sr121 : tsrc Try.prog 121 = true := by kernel_rfl
theorem sz122 : tsz Try.prog 122 = some 1 := by kernel_rfl
theorem ag122 : tag Try.prog 122 = some none := by kernel_rfl
theorem zc122 : tzc Try.prog 122 = some [.nilFunc] := by kernel_rfl
theorem sr122 : tsrc Try.prog 122 = true := by kernel_rfl
theorem sz123 : tsz Try.prog 123 = some 1 := by kernel_rfl
theorem ag123 : tag Try.prog 123 = some none := by kernel_rfl
theorem zc123 : tzc Try.prog 123 = some [.nilFunc] := by kernel_rfl
theorem sr123 : tsrc Try.prog 123 = true := by kernel_rfl
theorem sz124 : tsz Try.prog 124 = some 1 := by kernel_rfl
theorem ag124 : tag Try.prog 124 = some none := by kernel_rfl
theorem zc124 : tzc Try.prog 124 = some [.nilFunc] := by kernel_rfl
theorem sr124 : tsrc Try.prog 124 = true := by kernel_rfl
theorem sz125 : tsz Try.prog 125 = some 1 := by kernel_rfl
theorem ag125 : tag Try.prog 125 = some none := by kernel_rfl
theorem zc125 : tzc Try.prog 125 = some [.nilFunc] := by kernel_rfl
theorem sr125 : tsrc Try.prog 125 = true := by kernel_rfl
theorem sz126 : tsz Try.prog 126 = some 1 := by kernel_rfl
theorem ag126 : tag Try.prog 126 = some none := by kernel_rfl
theorem zc126 : tzc Try.prog 126 = some [(.int .i64 0)] := by kernel_rfl
theorem sr126 : tsrc Try.prog 126 = false := by kernel_rfl
theorem sz128 : tsz Try.prog 128 = some 1 := by kernel_rfl
theorem ag128 : tag Try.prog 128 = some none := by kernel_rfl
theorem zc128 : tzc Try.prog 128 = some [.nilFunc] := by kernel_rfl
theorem sr128 : tsrc Try.prog 128 = true := by kernel_rfl
theorem sz129 : tsz Try.prog 129 = some 1 := by kernel_rfl
theorem ag129 : tag Try.prog 129 = some none := by kernel_rfl
theorem zc129 : tzc Try.prog 129 = some [.nilFunc] := by kernel_rfl
theorem sr129 : tsrc Try.prog 129 = true := by kernel_rfl
theorem sz130 : tsz Try.prog 130 = some 1 := by kernel_rfl
theorem ag130 : tag Try.prog 130 = some none := by kernel_rfl
theorem zc130 : tzc Try.prog 130 = some [.nilFunc] := by kernel_rfl
theorem sr130 : tsrc Try.prog 130 = true := by kernel_rfl
theorem sz131 : tsz Try.prog 131 = some 1 := by kernel_rfl
theorem ag131 : tag Try.prog 131 = some none := by kernel_rfl
theorem zc131 : tzc Try.prog 131 = some [.nilFunc] := by kernel_rfl
theorem sr131 : tsrc Try.prog 131 = true := by kernel_rfl
theorem sz132 : tsz Try.prog 132 = some 1 := by kernel_rfl
theorem ag132 : tag Try.prog 132 = some none := by kernel_rfl
theorem zc132 : tzc Try.prog 132 = some [.nilFunc] := by kernel_rfl
theorem sr132 : tsrc Try.prog 132 = true := by kernel_rfl
theorem sz133 : tsz Try.prog 133 = some 1 := by kernel_rfl
theorem ag133 : tag Try.prog 133 = some none := by kernel_rfl
theorem zc133 : tzc Try.prog 133 = some [.nilFunc] := by kernel_rfl
theorem sr133 : tsrc Try.prog 133 = true := by kernel_rfl
theorem sz134 : tsz Try.prog 134 = some 1 := by kernel_rfl
theorem ag134 : tag Try.prog 134 = some none := by kernel_rfl
theorem zc134 : tzc Try.prog 134 = some [.nilFunc] := by kernel_rfl
theorem sr134 : tsrc Try.prog 134 = true := by kernel_rfl
theorem sz135 : tsz Try.prog 135 = some 1 := by kernel_rfl
theorem ag135 : tag Try.prog 135 = some none := by kernel_rfl
theorem zc135 : tzc Try.prog 135 = some [.nilFunc] := by kernel_rfl
theorem sr135 : tsrc Try.prog 135 = true := by kernel_rfl
theorem sz136 : tsz Try.prog 136 = some 1 := by kernel_rfl
theorem ag136 : tag Try.prog 136 = some none := by kernel_rfl
theorem zc136 : tzc Try.prog 136 = some [.nilFunc] := by kernel_rfl
theorem sr136 : tsrc Try.prog 136 = true := by kernel_rfl
theorem sz137 : tsz Try.prog 137 = some 1 := by kernel_rfl
theorem ag137 : tag Try.prog 137 = some none := by kernel_rfl
theorem zc137 : tzc Try.prog 137 = some [.nilFunc] := by kernel_rfl
theorem sr137 : tsrc Try.prog 137 = true := by kernel_rfl
theorem sz138 : tsz Try.prog 138 = some 1 := by kernel_rfl
theorem ag138 : tag Try.prog 138 = some none := by kernel_rfl
theorem zc138 : tzc Try.prog 138 = some [.nilFunc] := by kernel_rfl
theorem sr138 : tsrc Try.prog 138 = true := by kernel_rfl
theorem sz139 : tsz Try.prog 139 = some 1 := by kernel_rfl
theorem ag139 : tag Try.prog 139 = some none := by kernel_rfl
theorem zc139 : tzc Try.prog 139 = some [(.int .u64 0)] := by kernel_rfl
theorem sr139 : tsrc Try.prog 139 = false := by kernel_rfl
theorem sz140 : tsz Try.prog 140 = some 1 := by kernel_rfl
theorem ag140 : tag Try.prog 140 = some none := by kernel_rfl
theorem zc140 : tzc Try.prog 140 = some [.nilFunc] := by kernel_rfl
theorem sr140 : tsrc Try.prog 140 = true := by kernel_rfl
theorem sz141 : tsz Try.prog 141 = some 1 := by kernel_rfl
theorem ag141 : tag Try.prog 141 = some none := by kernel_rfl
theorem zc141 : tzc Try.prog 141 = some [.nilFunc] := by kernel_rfl
theorem sr141 : tsrc Try.prog 141 = true := by kernel_rfl
theorem sz142 : tsz Try.prog 142 = some 1 := by kernel_rfl
theorem ag142 : tag Try.prog 142 = some none := by kernel_rfl
theorem zc142 : tzc Try.prog 142 = some [.nilFunc] := by kernel_rfl
theorem sr142 : tsrc Try.prog 142 = true := by kernel_rfl
theorem sz143 : tsz Try.prog 143 = some 1 := by kernel_rfl
theorem ag143 : tag Try.prog 143 = some none := by kernel_rfl
theorem zc143 : tzc Try.prog 143 = some [(.ptr none)] := by kernel_rfl
theorem sr143 : tsrc Try.prog 143 = true := by kernel_rfl
theorem sz144 : tsz Try.prog 144 = some 1 := by kernel_rfl
theorem ag144 : tag Try.prog 144 = some none := by kernel_rfl
theorem zc144 : tzc Try.prog 144 = some [.nilFunc] := by kernel_rfl
theorem sr144 : tsrc Try.prog 144 = true := by kernel_rfl
theorem sz145 : tsz Try.prog 145 = some 1 := by kernel_rfl
theorem ag145 : tag Try.prog 145 = some none := by kernel_rfl
theorem zc145 : tzc Try.prog 145 = some [.nilFunc] := by kernel_rfl
theorem sr145 : tsrc Try.prog 145 = true := by kernel_rfl
theorem sz146 : tsz Try.prog 146 = some 1 := by kernel_rfl
theorem ag146 : tag Try.prog 146 = some none := by kernel_rfl
theorem zc146 : tzc Try.prog 146 = some [.nilFunc] := by kernel_rfl
theorem sr146 : tsrc Try.prog 146 = true := by kernel_rfl
theorem sz147 : tsz Try.prog 147 = some 1 := by kernel_rfl
theorem ag147 : tag Try.prog 147 = some none := by kernel_rfl
theorem zc147 : tzc Try.prog 147 = some [(.ptr none)] := by kernel_rfl
theorem sr147 : tsrc Try.prog 147 = true := by kernel_rfl
theorem sz149 : tsz Try.prog 149 = some 1 := by kernel_rfl
theorem ag149 : tag Try.prog 149 = some none := by kernel_rfl
theorem zc149 : tzc Try.prog 149 = some [.nilFunc] := by kernel_rfl
theorem sr149 : tsrc Try.prog 149 = true := by kernel_rfl
theorem sz150 : tsz Try.prog 150 = some 1 := by kernel_rfl
theorem ag150 : tag Try.prog 150 = some none := by kernel_rfl
theorem zc150 : tzc Try.prog 150 = some [.nilFunc] := by kernel_rfl
theorem sr150 : tsrc Try.prog 150 = true := by kernel_rfl
theorem sz151 : tsz Try.prog 151 = some 1 := by kernel_rfl
theorem ag151 : tag Try.prog 151 = some none := by kernel_rfl
theorem zc151 : tzc Try.prog 151 = some [.nilFunc] := by kernel_rfl
theorem sr151 : tsrc Try.prog 151 = true := by kernel_rfl
theorem sz152 : tsz Try.prog 152 = some 4 := by kernel_rfl
theorem ag152 : tag Try.prog 152 = some (some 4) := by kernel_rfl
theorem zc152 : tzc Try.prog 152 = some [(.ptr none), (.ptr none), (.ptr none), (.str ⟨#[]⟩)] := by kernel_rfl
theorem sr152 : tsrc Try.prog 152 = true := by kernel_rfl
theorem fd152_0 : tfd Try.prog 152 0 = some (0, 17) := by kernel_rfl
theorem fo152_0 : tfo Try.prog 152 0 = some 0 := by kernel_rfl
theorem fd152_1 : tfd Try.prog 152 1 = some (1, 17) := by kernel_rfl
theorem fo152_1 : tfo Try.prog 152 1 = some 1 := by kernel_rfl
theorem fd152_2 : tfd Try.prog 152 2 = some (2, 17) := by kernel_rfl
theorem fo152_2 : tfo Try.prog 152 2 = some 2 := by kernel_rfl
theorem fd152_3 : tfd Try.prog 152 3 = some (3, 9) := by kernel_rfl
theorem fo152_3 : tfo Try.prog 152 3 = some 3 := by kernel_rfl
theorem pl152 : tpl Try.prog 152 = some [(0, 1), (1, 1), (2, 1), (3, 1)] := by kernel_rfl
theorem bd152 (ps : List (Nat × AV)) (K : AV → Prop) : aBuild Try.prog 152 ps K = aBld (tpl Try.prog 152) (tzc Try.prog 152) ps K := aBuild_eq (by rw [pl152]; rfl) ps K
theorem sz153 : tsz Try.prog 153 = some 4 := by kernel_rfl
theorem ag153 : tag Try.prog 153 = some (some 4) := by kernel_rfl
theorem zc153 : tzc Try.prog 153 = some [(.ptr none), (.ptr none), (.ptr none), (.str ⟨#[]⟩)] := by kernel_rfl
theorem sr153 : tsrc Try.prog 153 = true := by kernel_rfl
theorem fd153_0 : tfd Try.prog 153 0 = some (0, 17) := by kernel_rfl
theorem fo153_0 : tfo Try.prog 153 0 = some 0 := by kernel_rfl
theorem fd153_1 : tfd Try.prog 153 1 = some (1, 17) := by kernel_rfl
theorem fo153_1 : tfo Try.prog 153 1 = some 1 := by kernel_rfl
theorem fd153_2 : tfd Try.prog 153 2 = some (2, 17) := by kernel_rfl
theorem fo153_2 : tfo Try.prog 153 2 = some 2 := by kernel_rfl
theorem fd153_3 : tfd Try.prog 153 3 = some (3, 9) := by kernel_rfl
theorem fo153_3 : tfo Try.prog 153 3 = some 3 := by kernel_rfl
theorem pl153 : tpl Try.prog 153 = some [(0, 1), (1, 1), (2, 1), (3, 1)] := by kernel_rfl
theorem bd153 (ps : List (Nat × AV)) (K : AV → Prop) : aBuild Try.prog 153 ps K = aBld (tpl Try.prog 153) (tzc Try.prog 153) ps K := aBuild_eq (by rw [pl153]; rfl) ps K
theorem sz154 : tsz Try.prog 154 = some 0 := by kernel_rfl
theorem ag154 : tag Try.prog 154 = some (some 0) := by kernel_rfl
theorem zc154 : tzc Try.prog 154 = some [] := by kernel_rfl
theorem sr154 : tsrc Try.prog 154 = true := by kernel_rfl
theorem el154 : tel Try.prog 154 = some (some 0, 1) := by kernel_rfl
theorem ln154 : tlen Try.prog 154 = some (.arr 0) := by kernel_rfl
theorem sz155 : tsz Try.prog 155 = some 0 := by kernel_rfl
theorem ag155 : tag Try.prog 155 = some (some 0) := by kernel_rfl
theorem zc155 : tzc Try.prog 155 = some [] := by kernel_rfl
theorem sr155 : tsrc Try.prog 155 = true := by kernel_rfl
theorem fd155_0 : tfd Try.prog 155 0 = some (0, 154) := by kernel_rfl
theorem pl155 : tpl Try.prog 155 = some [(0, 0)] := by kernel_rfl
theorem bd155 (ps : List (Nat × AV)) (K : AV → Prop) : aBuild Try.prog 155 ps K = aBld (tpl Try.prog 155) (tzc Try.prog 155) ps K := aBuild_eq (by rw [pl155]; rfl) ps K
theorem sz156 : tsz Try.prog 156 = some 0 := by kernel_rfl
theorem ag156 : tag Try.prog 156 = some (some 0) := by kernel_rfl
theorem zc156 : tzc Try.prog 156 = some [] := by kernel_rfl
theorem sr156 : tsrc Try.prog 156 = true := by kernel_rfl
theorem fd156_0 : tfd Try.prog 156 0 = some (0, 154) := by kernel_rfl
theorem pl156 : tpl Try.prog 156 = some [(0, 0)] := by kernel_rfl
theorem bd156 (ps : List (Nat × AV)) (K : AV → Prop) : aBuild Try.prog 156 ps K = aBld (tpl Try.prog 156) (tzc Try.prog 156) ps K := aBuild_eq (by rw [pl156]; rfl) ps K
theorem sz157 : tsz Try.prog 157 = some 1 := by kernel_rfl
theorem ag157 : tag Try.prog 157 = some none := by kernel_rfl
theorem zc157 : tzc Try.prog 157 = some [.nilFunc] := by kernel_rfl
theorem sr157 : tsrc Try.prog 157 = true := by kernel_rfl
theorem sz158 : tsz Try.prog 158 = some 1 := by kernel_rfl
theorem ag158 : tag Try.prog 158 = some none := by kernel_rfl
theorem zc158 : tzc Try.prog 158 = some [(.int .u8 0)] := by kernel_rfl
theorem sr158 : tsrc Try.prog 158 = false := by kernel_rfl
theorem sz159 : tsz Try.prog 159 = some 1 := by kernel_rfl
theorem ag159 : tag Try.prog 159 = some none := by kernel_rfl
theorem zc159 : tzc Try.prog 159 = some [(.int .u8 0)] := by kernel_rfl
theorem sr159 : tsrc Try.prog 159 = false := by kernel_rfl
theorem sz160 : tsz Try.prog 160 = some 1 := by kernel_rfl
theorem ag160 : tag Try.prog 160 = some none := by kernel_rfl
theorem zc160 : tzc Try.prog 160 = some [.nilFunc] := by kernel_rfl
theorem sr160 : tsrc Try.prog 160 = true := by kernel_rfl
theorem sz161 : tsz Try.prog 161 = some 1 := by kernel_rfl
theorem ag161 : tag Try.prog 161 = some none := by kernel_rfl
theorem zc161 : tzc Try.prog 161 = some [(.ptr none)] := by kernel_rfl
theorem sr161 : tsrc Try.prog 161 = true := by kernel_rfl
theorem sz162 : tsz Try.prog 162 = some 1 := by kernel_rfl
theorem ag162 : tag Try.prog 162 = some none := by kernel_rfl
theorem zc162 : tzc Try.prog 162 = some [(.int .i32 0)] := by kernel_rfl
theorem sr162 : tsrc Try.prog 162 = false := by kernel_rfl
theorem sz163 : tsz Try.prog 163 = some 1 := by kernel_rfl
theorem ag163 : tag Try.prog 163 = some none := by kernel_rfl
theorem zc163 : tzc Try.prog 163 = some [(.int .i32 0)] := by kernel_rfl
theorem sr163 : tsrc Try.prog 163 = false := by kernel_rfl
theorem sz164 : tsz Try.prog 164 = some 11 := by kernel_rfl
theorem ag164 : tag Try.prog 164 = some (some 11) := by kernel_rfl
theorem zc164 : tzc Try.prog 164 = some [(.int .u64 0), (.int .u64 0), (.int .u32 0), (.int .u8 0), (.int .u8 0), (.int .u8 0), (.int .u8 0), .nilFunc, (.ptr none), (.int .i32 0), (.int .i32 0)] := by kernel_rfl
theorem sr164 : tsrc Try.prog 164 = true := by kernel_rfl
theorem fd164_0 : tfd Try.prog 164 0 = some (0, 12) := by kernel_rfl
theorem fo164_0 : tfo Try.prog 164 0 = some 0 := by kernel_rfl
theorem fd164_1 : tfd Try.prog 164 1 = some (1, 12) := by kernel_rfl
theorem fo164_1 : tfo Try.prog 164 1 = some 1 := by kernel_rfl
theorem fd164_2 : tfd Try.prog 164 2 = some (2, 118) := by kernel_rfl
theorem fo164_2 : tfo Try.prog 164 2 = some 2 := by kernel_rfl
theorem fd164_3 : tfd Try.prog 164 3 = some (3, 158) := by kernel_rfl
theorem fo164_3 : tfo Try.prog 164 3 = some 3 := by kernel_rfl
theorem fd164_4 : tfd Try.prog 164 4 = some (4, 5) := by kernel_rfl
theorem fo164_4 : tfo Try.prog 164 4 = some 4 := by kernel_rfl
theorem fd164_5 : tfd Try.prog 164 5 = some (5, 5) := by kernel_rfl
theorem fo164_5 : tfo Try.prog 164 5 = some 5 := by kernel_rfl
theorem fd164_6 : tfd Try.prog 164 6 = some (6, 159) := by kernel_rfl
theorem fo164_6 : tfo Try.prog 164 6 = some 6 := by kernel_rfl
theorem fd164_7 : tfd Try.prog 164 7 = some (7, 160) := by kernel_rfl
theorem fo164_7 : tfo Try.prog 164 7 = some 7 := by kernel_rfl
theorem fd164_8 : tfd Try.prog 164 8 = some (8, 161) := by kernel_rfl
theorem fo164_8 : tfo Try.prog 164 8 = some 8 := by kernel_rfl
theorem fd164_9 : tfd Try.prog 164 9 = some (9, 162) := by kernel_rfl
theorem fo164_9 : tfo Try.prog 164 9 = some 9 := by kernel_rfl
theorem fd164_10 : tfd Try.prog 164 10 = some (10, 163) := by kernel_rfl
theorem fo164_10 : tfo Try.prog 164 10 = some 10 := by kernel_rfl
theorem pl164 : tpl Try.prog 164 = some [(0, 1), (1, 1), (2, 1), (3, 1), (4, 1), (5, 1), (6, 1), (7, 1), (8, 1), (9, 1), (10, 1)] := by kernel_rfl
theorem bd164 (ps : List (Nat × AV)) (K : AV → Prop) : aBuild Try.prog 164 ps K = aBld (tpl Try.prog 164) (tzc Try.prog 164) ps K := aBuild_eq (by rw [pl164]; rfl) ps K
theorem sz165 : tsz Try.prog 165 = some 11 := by kernel_rfl
theorem ag165 : tag Try.prog 165 = some (some 11) := by kernel_rfl
theorem zc165 : tzc Try.prog 165 = some [(.int .u64 0), (.int .u64 0), (.int .u32 0), (.int .u8 0), (.int .u8 0), (.int .u8 0), (.int .u8 0), .nilFunc, (.ptr none), (.int .i32 0), (.int .i32 0)] := by kernel_rfl
theorem sr165 : tsrc Try.prog 165 = true := by kernel_rfl
theorem fd165_0 : tfd Try.prog 165 0 = some (0, 12) := by kernel_rfl
theorem fo165_0 : tfo Try.prog 165 0 = some 0 := by kernel_rfl
theorem fd165_1 : tfd Try.prog 165 1 = some (1, 12) := by kernel_rfl
theorem fo165_1 : tfo Try.prog 165 1 = some 1 := by kernel_rfl
theorem fd165_2 : tfd Try.prog 165 2 = some (2, 118) := by kernel_rfl
theorem fo165_2 : tfo Try.prog 165 2 = some 2 := by kernel_rfl
theorem fd165_3 : tfd Try.prog 165 3 = some (3, 158) := by kernel_rfl
theorem fo165_3 : tfo Try.prog 165 3 = some 3 := by kernel_rfl
theorem fd165_4 : tfd Try.prog 165 4 = some (4, 5) := by kernel_rfl
theorem fo165_4 : tfo Try.prog 165 4 = some 4 := by kernel_rfl
theorem fd165_5 : tfd Try.prog 165 5 = some (5, 5) := by kernel_rfl
theorem fo165_5 : tfo Try.prog 165 5 = some 5 := by kernel_rfl
theorem fd165_6 : tfd Try.prog 165 6 = some (6, 159) := by kernel_rfl
theorem fo165_6 : tfo Try.prog 165 6 = some 6 := by kernel_rfl
theorem fd165_7 : tfd Try.prog 165 7 = some (7, 160) := by kernel_rfl
theorem fo165_7 : tfo Try.prog 165 7 = some 7 := by kernel_rfl
theorem fd165_8 : tfd Try.prog 165 8 = some (8, 161) := by kernel_rfl
theorem fo165_8 : tfo Try.prog 165 8 = some 8 := by kernel_rfl
theorem fd165_9 : tfd Try.prog 165 9 = some (9, 162) := by kernel_rfl
theorem fo165_9 : tfo Try.prog 165 9 = some 9 := by kernel_rfl
theorem fd165_10 : tfd Try.prog 165 10 = some (10, 163) := by kernel_rfl
theorem fo165_10 : tfo Try.prog 165 10 = some 10 := by kernel_rfl
theorem pl165 : tpl Try.prog 165 = some [(0, 1), (1, 1), (2, 1), (3, 1), (4, 1), (5, 1), (6, 1), (7, 1), (8, 1), (9, 1), (10, 1)] := by kernel_rfl
theorem bd165 (ps : List (Nat × AV)) (K : AV → Prop) : aBuild Try.prog 165 ps K = aBld (tpl Try.prog 165) (tzc Try.prog 165) ps K := aBuild_eq (by rw [pl165]; rfl) ps K
theorem sz166 : tsz Try.prog 166 = some 1 := by kernel_rfl
theorem ag166 : tag Try.prog 166 = some none := by kernel_rfl
theorem zc166 : tzc Try.prog 166 = some [(.ptr none)] := by kernel_rfl
theorem sr166 : tsrc Try.prog 166 = true := by kernel_rfl
theorem mu56 : tmkey Try.prog 56 = some true := by kernel_rfl
theorem mu90 : tmkey Try.prog 90 = some true := by kernel_rfl
theorem ar154 : tarr Try.prog 154 = some (0, 1) := by kernel_rfl
theorem ba154 (ps : List (Nat × AV)) (K : AV → Prop) : aBuild Try.prog 154 ps K = aBldA (tarr Try.prog 154) (tzc Try.prog 154) ps K := aBuildA_eq (by rw [ar154]; rfl) ps K
theorem cv2_2 : tcv Try.prog 2 2 = some (some .i64) := by kernel_rfl
theorem cv2_3 : tcv Try.prog 2 3 = some (some .i64) := by kernel_rfl
theorem cv2_5 : tcv Try.prog 2 5 = some (some .u8) := by kernel_rfl
theorem cv2_6 : tcv Try.prog 2 6 = some (some .u8) := by kernel_rfl
theorem cv2_12 : tcv Try.prog 2 12 = some (some .u64) := by kernel_rfl
theorem cv2_21 : tcv Try.prog 2 21 = some (some .i32) := by kernel_rfl
theorem cv2_28 : tcv Try.prog 2 28 = some (some .i64) := by kernel_rfl
theorem cv2_53 : tcv Try.prog 2 53 = some (some .u16) := by kernel_rfl
theorem cv2_76 : tcv Try.prog 2 76 = some (some .u64) := by kernel_rfl
theorem cv2_77 : tcv Try.prog 2 77 = some (some .u64) := by kernel_rfl
theorem cv2_118 : tcv Try.prog 2 118 = some (some .u32) := by kernel_rfl
theorem cv2_120 : tcv Try.prog 2 120 = some (some .u64) := by kernel_rfl
theorem cv2_126 : tcv Try.prog 2 126 = some (some .i64) := by kernel_rfl
theorem cv2_139 : tcv Try.prog 2 139 = some (some .u64) := by kernel_rfl
theorem cv2_158 : tcv Try.prog 2 158 = some (some .u8) := by kernel_rfl
theorem cv2_159 : tcv Try.prog 2 159 = some (some .u8) := by kernel_rfl
theorem cv2_162 : tcv Try.prog 2 162 = some (some .i32) := by kernel_rfl
theorem cv2_163 : tcv Try.prog 2 163 = some (some .i32) := by kernel_rfl
theorem cv3_2 : tcv Try.prog 3 2 = some (some .i64) := by kernel_rfl
theorem cv3_3 : tcv Try.prog 3 3 = some (some .i64) := by kernel_rfl
theorem cv3_5 : tcv Try.prog 3 5 = some (some .u8) := by kernel_rfl
theorem cv3_6 : tcv Try.prog 3 6 = some (some .u8) := by kernel_rfl
theorem cv3_12 : tcv Try.prog 3 12 = some (some .u64) := by kernel_rfl
theorem cv3_21 : tcv Try.prog 3 21 = some (some .i32) := by kernel_rfl
theorem cv3_28 : tcv Try.prog 3 28 = some (some .i64) := by kernel_rfl
theorem cv3_53 : tcv Try.prog 3 53 = some (some .u16) := by kernel_rfl
theorem cv3_76 : tcv Try.prog 3 76 = some (some .u64) := by kernel_rfl
theorem cv3_77 : tcv Try.prog 3 77 = some (some .u64) := by kernel_rfl
theorem cv3_118 : tcv Try.prog 3 118 = some (some .u32) := by kernel_rfl
theorem cv3_120 : tcv Try.prog 3 120 = some (some .u64) := by kernel_rfl
theorem cv3_126 : tcv Try.prog 3 126 = some (some .i64) := by kernel_rfl
theorem cv3_139 : tcv Try.prog 3 139 = some (some .u64) := by kernel_rfl
theorem cv3_158 : tcv Try.prog 3 158 = some (some .u8) := by kernel_rfl
theorem cv3_159 : tcv Try.prog 3 159 = some (some .u8) := by kernel_rfl
theorem cv3_162 : tcv Try.prog 3 162 = some (some .i32) := by kernel_rfl
theorem cv3_163 : tcv Try.prog 3 163 = some (some .i32) := by kernel_rfl
theorem cv5_2 : tcv Try.prog 5 2 = some (some .i64) := by kernel_rfl
theorem cv5_3 : tcv Try.prog 5 3 = some (some .i64) := by kernel_rfl
theorem cv5_5 : tcv Try.prog 5 5 = some (some .u8) := by kernel_rfl
theorem cv5_6 : tcv Try.prog 5 6 = some (some .u8) := by kernel_rfl
theorem cv5_12 : tcv Try.prog 5 12 = some (some .u64) := by kernel_rfl
theorem cv5_21 : tcv Try.prog 5 21 = some (some .i32) := by kernel_rfl
theorem cv5_28 : tcv Try.prog 5 28 = some (some .i64) := by kernel_rfl
theorem cv5_53 : tcv Try.prog 5 53 = some (some .u16) := by kernel_rfl
theorem cv5_76 : tcv Try.prog 5 76 = some (some .u64) := by kernel_rfl
theorem cv5_77 : tcv Try.prog 5 77 = some (some .u64) := by kernel_rfl
theorem cv5_118 : tcv Try.prog 5 118 = some (some .u32) := by kernel_rfl
theorem cv5_120 : tcv Try.prog 5 120 = some (some .u64) := by kernel_rfl
theorem cv5_126 : tcv Try.prog 5 126 = some (some .i64) := by kernel_rfl
theorem cv5_139 : tcv Try.prog 5 139 = some (some .u64) := by kernel_rfl
theorem cv5_158 : tcv Try.prog 5 158 = some (some .u8) := by kernel_rfl
theorem cv5_159 : tcv Try.prog 5 159 = some (some .u8) := by kernel_rfl
theorem cv5_162 : tcv Try.prog 5 162 = some (some .i32) := by kernel_rfl
theorem cv5_163 : tcv Try.prog 5 163 = some (some .i32) := by kernel_rfl
theorem cv6_2 : tcv Try.prog 6 2 = some (some .i64) := by kernel_rfl
theorem cv6_3 : tcv Try.prog 6 3 = some (some .i64) := by kernel_rfl
theorem cv6_5 : tcv Try.prog 6 5 = some (some .u8) := by kernel_rfl
theorem cv6_6 : tcv Try.prog 6 6 = some (some .u8) := by kernel_rfl
theorem cv6_12 : tcv Try.prog 6 12 = some (some .u64) := by kernel_rfl
theorem cv6_21 : tcv Try.prog 6 21 = some (some .i32) := by kernel_rfl
theorem cv6_28 : tcv Try.prog 6 28 = some (some .i64) := by kernel_rfl
theorem cv6_53 : tcv Try.prog 6 53 = some (some .u16) := by kernel_rfl
theorem cv6_76 : tcv Try.prog 6 76 = some (some .u64) := by kernel_rfl
theorem cv6_77 : tcv Try.prog 6 77 = some (some .u64) := by kernel_rfl
theorem cv6_118 : tcv Try.prog 6 118 = some (some .u32) := by kernel_rfl
theorem cv6_120 : tcv Try.prog 6 120 = some (some .u64) := by kernel_rfl
theorem cv6_126 : tcv Try.prog 6 126 = some (some .i64) := by kernel_rfl
theorem cv6_139 : tcv Try.prog 6 139 = some (some .u64) := by kernel_rfl
theorem cv6_158 : tcv Try.prog 6 158 = some (some .u8) := by kernel_rfl
theorem cv6_159 : tcv Try.prog 6 159 = some (some .u8) := by kernel_rfl
theorem cv6_162 : tcv Try.prog 6 162 = some (some .i32) := by kernel_rfl
theorem cv6_163 : tcv Try.prog 6 163 = some (some .i32) := by kernel_rfl
theorem cv9_9 : tcv Try.prog 9 9 = some none := by kernel_rfl
theorem cv9_10 : tcv Try.prog 9 10 = some none := by kernel_rfl
theorem cv9_11 : tcv Try.prog 9 11 = some none := by kernel_rfl
theorem cv10_9 : tcv Try.prog 10 9 = some none := by kernel_rfl
theorem cv10_10 : tcv Try.prog 10 10 = some none := by kernel_rfl
theorem cv10_11 : tcv Try.prog 10 11 = some none := by kernel_rfl
theorem cv11_9 : tcv Try.prog 11 9 = some none := by kernel_rfl
theorem cv11_10 : tcv Try.prog 11 10 = some none := by kernel_rfl
theorem cv11_11 : tcv Try.prog 11 11 = some none := by kernel_rfl
theorem cv12_2 : tcv Try.prog 12 2 = some (some .i64) := by kernel_rfl
theorem cv12_3 : tcv Try.prog 12 3 = some (some .i64) := by kernel_rfl
theorem cv12_5 : tcv Try.prog 12 5 = some (some .u8) := by kernel_rfl
theorem cv12_6 : tcv Try.prog 12 6 = some (some .u8) := by kernel_rfl
theorem cv12_12 : tcv Try.prog 12 12 = some (some .u64) := by kernel_rfl
theorem cv12_21 : tcv Try.prog 12 21 = some (some .i32) := by kernel_rfl
theorem cv12_28 : tcv Try.prog 12 28 = some (some .i64) := by kernel_rfl
theorem cv12_53 : tcv Try.prog 12 53 = some (some .u16) := by kernel_rfl
theorem cv12_76 : tcv Try.prog 12 76 = some (some .u64) := by kernel_rfl
theorem cv12_77 : tcv Try.prog 12 77 = some (some .u64) := by kernel_rfl
theorem cv12_118 : tcv Try.prog 12 118 = some (some .u32) := by kernel_rfl
theorem cv12_120 : tcv Try.prog 12 120 = some (some .u64) := by kernel_rfl
theorem cv12_126 : tcv Try.prog 12 126 = some (some .i64) := by kernel_rfl
theorem cv12_139 : tcv Try.prog 12 139 = some (some .u64) := by kernel_rfl
theorem cv12_158 : tcv Try.prog 12 158 = some (some .u8) := by kernel_rfl
theorem cv12_159 : tcv Try.prog 12 159 = some (some .u8) := by kernel_rfl
theorem cv12_162 : tcv Try.prog 12 162 = some (some .i32) := by kernel_rfl
theorem cv12_163 : tcv Try.prog 12 163 = some (some .i32) := by kernel_rfl
theorem cv21_2 : tcv Try.prog 21 2 = some (some .i64) := by kernel_rfl
theorem cv21_3 : tcv Try.prog 21 3 = some (some .i64) := by kernel_rfl
theorem cv21_5 : tcv Try.prog 21 5 = some (some .u8) := by kernel_rfl
theorem cv21_6 : tcv Try.prog 21 6 = some (some .u8) := by kernel_rfl
theorem cv21_12 : tcv Try.prog 21 12 = some (some .u64) := by kernel_rfl
theorem cv21_21 : tcv Try.prog 21 21 = some (some .i32) := by kernel_rfl
theorem cv21_28 : tcv Try.prog 21 28 = some (some .i64) := by kernel_rfl
theorem cv21_53 : tcv Try.prog 21 53 = some (some .u16) := by kernel_rfl
theorem cv21_76 : tcv Try.prog 21 76 = some (some .u64) := by kernel_rfl
theorem cv21_77 : tcv Try.prog 21 77 = some (some .u64) := by kernel_rfl
theorem cv21_118 : tcv Try.prog 21 118 = some (some .u32) := by kernel_rfl
theorem cv21_120 : tcv Try.prog 21 120 = some (some .u64) := by kernel_rfl
theorem cv21_126 : tcv Try.prog 21 126 = some (some .i64) := by kernel_rfl
theorem cv21_139 : tcv Try.prog 21 139 = some (some .u64) := by kernel_rfl
theorem cv21_158 : tcv Try.prog 21 158 = some (some .u8) := by kernel_rfl
theorem cv21_159 : tcv Try.prog 21 159 = some (some .u8) := by kernel_rfl
theorem cv21_162 : tcv Try.prog 21 162 = some (some .i32) := by kernel_rfl
theorem cv21_163 : tcv Try.prog 21 163 = some (some .i32) := by kernel_rfl
theorem cv28_2 : tcv Try.prog 28 2 = some (some .i64) := by kernel_rfl
theorem cv28_3 : tcv Try.prog 28 3 = some (some .i64) := by kernel_rfl
theorem cv28_5 : tcv Try.prog 28 5 = some (some .u8) := by kernel_rfl
theorem cv28_6 : tcv Try.prog 28 6 = some (some .u8) := by kernel_rfl
theorem cv28_12 : tcv Try.prog 28 12 = some (some .u64) := by kernel_rfl
theorem cv28_21 : tcv Try.prog 28 21 = some (some .i32) := by kernel_rfl
theorem cv28_28 : tcv Try.prog 28 28 = some (some .i64) := by kernel_rfl
theorem cv28_53 : tcv Try.prog 28 53 = some (some .u16) := by kernel_rfl
theorem cv28_76 : tcv Try.prog 28 76 = some (some .u64) := by kernel_rfl
theorem cv28_77 : tcv Try.prog 28 77 = some (some .u64) := by kernel_rfl
theorem cv28_118 : tcv Try.prog 28 118 = some (some .u32) := by kernel_rfl
theorem cv28_120 : tcv Try.prog 28 120 = some (some .u64) := by kernel_rfl
theorem cv28_126 : tcv Try.prog 28 126 = some (some .i64) := by kernel_rfl
theorem cv28_139 : tcv Try.prog 28 139 = some (some .u64) := by kernel_rfl
theorem cv28_158 : tcv Try.prog 28 158 = some (some .u8) := by kernel_rfl
theorem cv28_159 : tcv Try.prog 28 159 = some (some .u8) := by kernel_rfl
theorem cv28_162 : tcv Try.prog 28 162 = some (some .i32) := by kernel_rfl
theorem cv28_163 : tcv Try.prog 28 163 = some (some .i32) := by kernel_rfl
theorem cv53_2 : tcv Try.prog 53 2 = some (some .i64) := by kernel_rfl
theorem cv53_3 : tcv Try.prog 53 3 = some (some .i64) := by kernel_rfl
theorem cv53_5 : tcv Try.prog 53 5 = some (some .u8) := by kernel_rfl
theorem cv53_6 : tcv Try.prog 53 6 = some (some .u8) := by kernel_rfl
theorem cv53_12 : tcv Try.prog 53 12 = some (some .u64) := by kernel_rfl
theorem cv53_21 : tcv Try.prog 53 21 = some (some .i32) := by kernel_rfl
theorem cv53_28 : tcv Try.prog 53 28 = some (some .i64) := by kernel_rfl
theorem cv53_53 : tcv Try.prog 53 53 = some (some .u16) := by kernel_rfl
theorem cv53_76 : tcv Try.prog 53 76 = some (some .u64) := by kernel_rfl
theorem cv53_77 : tcv Try.prog 53 77 = some (some .u64) := by kernel_rfl
theorem cv53_118 : tcv Try.prog 53 118 = some (some .u32) := by kernel_rfl
theorem cv53_120 : tcv Try.prog 53 120 = some (some .u64) := by kernel_rfl
theorem cv53_126 : tcv Try.prog 53 126 = some (some .i64) := by kernel_rfl
theorem cv53_139 : tcv Try.prog 53 139 = some (some .u64) := by kernel_rfl
theorem cv53_158 : tcv Try.prog 53 158 = some (some .u8) := by kernel_rfl
theorem cv53_159 : tcv Try.prog 53 159 = some (some .u8) := by kernel_rfl
theorem cv53_162 : tcv Try.prog 53 162 = some (some .i32) := by kernel_rfl
theorem cv53_163 : tcv Try.prog 53 163 = some (some .i32) := by kernel_rfl
theorem cv76_2 : tcv Try.prog 76 2 = some (some .i64) := by kernel_rfl
theorem cv76_3 : tcv Try.prog 76 3 = some (some .i64) := by kernel_rfl
theorem cv76_5 : tcv Try.prog 76 5 = some (some .u8) := by kernel_rfl
theorem cv76_6 : tcv Try.prog 76 6 = some (some .u8) := by kernel_rfl
theorem cv76_12 : tcv Try.prog 76 12 = some (some .u64) := by kernel_rfl
theorem cv76_21 : tcv Try.prog 76 21 = some (some .i32) := by kernel_rfl
theorem cv76_28 : tcv Try.prog 76 28 = some (some .i64) := by kernel_rfl
theorem cv76_53 : tcv Try.prog 76 53 = some (some .u16) := by kernel_rfl
theorem cv76_76 : tcv Try.prog 76 76 = some (some .u64) := by kernel_rfl
theorem cv76_77 : tcv Try.prog 76 77 = some (some .u64) := by kernel_rfl
theorem cv76_118 : tcv Try.prog 76 118 = some (some .u32) := by kernel_rfl
theorem cv76_120 : tcv Try.prog 76 120 = some (some .u64) := by kernel_rfl
theorem cv76_126 : tcv Try.prog 76 126 = some (some .i64) := by kernel_rfl
theorem cv76_139 : tcv Try.prog 76 139 = some (some .u64) := by kernel_rfl
theorem cv76_158 : tcv Try.prog 76 158 = some (some .u8) := by kernel_rfl
theorem cv76_159 : tcv Try.prog 76 159 = some (some .u8) := by kernel_rfl
theorem cv76_162 : tcv Try.prog 76 162 = some (some .i32) := by kernel_rfl
theorem cv76_163 : tcv Try.prog 76 163 = some (some .i32) := by kernel_rfl
theorem cv77_2 : tcv Try.prog 77 2 = some (some .i64) := by kernel_rfl
theorem cv77_3 : tcv Try.prog 77 3 = some (some .i64) := by kernel_rfl
theorem cv77_5 : tcv Try.prog 77 5 = some (some .u8) := by kernel_rfl
theorem cv77_6 : tcv Try.prog 77 6 = some (some .u8) := by kernel_rfl
theorem cv77_12 : tcv Try.prog 77 12 = some (some .u64) := by kernel_rfl
theorem cv77_21 : tcv Try.prog 77 21 = some (some .i32) := by kernel_rfl
theorem cv77_28 : tcv Try.prog 77 28 = some (some .i64) := by kernel_rfl
theorem cv77_53 : tcv Try.prog 77 53 = some (some .u16) := by kernel_rfl
theorem cv77_76 : tcv Try.prog 77 76 = some (some .u64) := by kernel_rfl
theorem cv77_77 : tcv Try.prog 77 77 = some (some .u64) := by kernel_rfl
theorem cv77_118 : tcv Try.prog 77 118 = some (some .u32) := by kernel_rfl
theorem cv77_120 : tcv Try.prog 77 120 = some (some .u64) := by kernel_rfl
theorem cv77_126 : tcv Try.prog 77 126 = some (some .i64) := by kernel_rfl
theorem cv77_139 : tcv Try.prog 77 139 = some (some .u64) := by kernel_rfl
theorem cv77_158 : tcv Try.prog 77 158 = some (some .u8) := by kernel_rfl
theorem cv77_159 : tcv Try.prog 77 159 = some (some .u8) := by kernel_rfl
theorem cv77_162 : tcv Try.prog 77 162 = some (some .i32) := by kernel_rfl
theorem cv77_163 : tcv Try.prog 77 163 = some (some .i32) := by kernel_rfl
theorem cv118_2 : tcv Try.prog 118 2 = some (some .i64) := by kernel_rfl
theorem cv118_3 : tcv Try.prog 118 3 = some (some .i64) := by kernel_rfl
theorem cv118_5 : tcv Try.prog 118 5 = some (some .u8) := by kernel_rfl
theorem cv118_6 : tcv Try.prog 118 6 = some (some .u8) := by kernel_rfl
theorem cv118_12 : tcv Try.prog 118 12 = some (some .u64) := by kernel_rfl
theorem cv118_21 : tcv Try.prog 118 21 = some (some .i32) := by kernel_rfl
theorem cv118_28 : tcv Try.prog 118 28 = some (some .i64) := by kernel_rfl
theorem cv118_53 : tcv Try.prog 118 53 = some (some .u16) := by kernel_rfl
theorem cv118_76 : tcv Try.prog 118 76 = some (some .u64) := by kernel_rfl
theorem cv118_77 : tcv Try.prog 118 77 = some (some .u64) := by kernel_rfl
theorem cv118_118 : tcv Try.prog 118 118 = some (some .u32) := by kernel_rfl
theorem cv118_120 : tcv Try.prog 118 120 = some (some .u64) := by kernel_rfl
theorem cv118_126 : tcv Try.prog 118 126 = some (some .i64) := by kernel_rfl
theorem cv118_139 : tcv Try.prog 118 139 = some (some .u64) := by kernel_rfl
theorem cv118_158 : tcv Try.prog 118 158 = some (some .u8) := by kernel_rfl
theorem cv118_159 : tcv Try.prog 118 159 = some (some .u8) := by kernel_rfl
theorem cv118_162 : tcv Try.prog 118 162 = some (some .i32) := by kernel_rfl
theorem cv118_163 : tcv Try.prog 118 163 = some (some .i32) := by kernel_rfl
theorem cv120_2 : tcv Try.prog 120 2 = some (some .i64) := by kernel_rfl
theorem cv120_3 : tcv Try.prog 120 3 = some (some .i64) := by kernel_rfl
theorem cv120_5 : tcv Try.prog 120 5 = some (some .u8) := by kernel_rfl
theorem cv120_6 : tcv Try.prog 120 6 = some (some .u8) := by kernel_rfl
theorem cv120_12 : tcv Try.prog 120 12 = some (some .u64) := by kernel_rfl
theorem cv120_21 : tcv Try.prog 120 21 = some (some .i32) := by kernel_rfl
theorem cv120_28 : tcv Try.prog 120 28 = some (some .i64) := by kernel_rfl
theorem cv120_53 : tcv Try.prog 120 53 = some (some .u16) := by kernel_rfl
theorem cv120_76 : tcv Try.prog 120 76 = some (some .u64) := by kernel_rfl
theorem cv120_77 : tcv Try.prog 120 77 = some (some .u64) := by kernel_rfl
theorem cv120_118 : tcv Try.prog 120 118 = some (some .u32) := by kernel_rfl
theorem cv120_120 : tcv Try.prog 120 120 = some (some .u64) := by kernel_rfl
theorem cv120_126 : tcv Try.prog 120 126 = some (some .i64) := by kernel_rfl
theorem cv120_139 : tcv Try.prog 120 139 = some (some .u64) := by kernel_rfl
theorem cv120_158 : tcv Try.prog 120 158 = some (some .u8) := by kernel_rfl
theorem cv120_159 : tcv Try.prog 120 159 = some (some .u8) := by kernel_rfl
theorem cv120_162 : tcv Try.prog 120 162 = some (some .i32) := by kernel_rfl
theorem cv120_163 : tcv Try.prog 120 163 = some (some .i32) := by kernel_rfl
theorem cv126_2 : tcv Try.prog 126 2 = some (some .i64) := by kernel_rfl
theorem cv126_3 : tcv Try.prog 126 3 = some (some .i64) := by kernel_rfl
theorem cv126_5 : tcv Try.prog 126 5 = some (some .u8) := by kernel_rfl
theorem cv126_6 : tcv Try.prog 126 6 = some (some .u8) := by kernel_rfl
theorem cv126_12 : tcv Try.prog 126 12 = some (some .u64) := by kernel_rfl
theorem cv126_21 : tcv Try.prog 126 21 = some (some .i32) := by kernel_rfl
theorem cv126_28 : tcv Try.prog 126 28 = some (some .i64) := by kernel_rfl
theorem cv126_53 : tcv Try.prog 126 53 = some (some .u16) := by kernel_rfl
theorem cv126_76 : tcv Try.prog 126 76 = some (some .u64) := by kernel_rfl
theorem cv126_77 : tcv Try.prog 126 77 = some (some .u64) := by kernel_rfl
theorem cv126_118 : tcv Try.prog 126 118 = some (some .u32) := by kernel_rfl
theorem cv126_120 : tcv Try.prog 126 120 = some (some .u64) := by kernel_rfl
theorem cv126_126 : tcv Try.prog 126 126 = some (some .i64) := by kernel_rfl
theorem cv126_139 : tcv Try.prog 126 139 = some (some .u64) := by kernel_rfl
theorem cv126_158 : tcv Try.prog 126 158 = some (some .u8) := by kernel_rfl
theorem cv126_159 : tcv Try.prog 126 159 = some (some .u8) := by kernel_rfl
theorem cv126_162 : tcv Try.prog 126 162 = some (some .i32) := by kernel_rfl
theorem cv126_163 : tcv Try.prog 126 163 = some (some .i32) := by kernel_rfl
theorem cv139_2 : tcv Try.prog 139 2 = some (some .i64) := by kernel_rfl
theorem cv139_3 : tcv Try.prog 139 3 = some (some .i64) := by kernel_rfl
theorem cv139_5 : tcv Try.prog 139 5 = some (some .u8) := by kernel_rfl
theorem cv139_6 : tcv Try.prog 139 6 = some (some .u8) := by kernel_rfl
theorem cv139_12 : tcv Try.prog 139 12 = some (some .u64) := by kernel_rfl
theorem cv139_21 : tcv Try.prog 139 21 = some (some .i32) := by kernel_rfl
theorem cv139_28 : tcv Try.prog 139 28 = some (some .i64) := by kernel_rfl
theorem cv139_53 : tcv Try.prog 139 53 = some (some .u16) := by kernel_rfl
theorem cv139_76 : tcv Try.prog 139 76 = some (some .u64) := by kernel_rfl
theorem cv139_77 : tcv Try.prog 139 77 = some (some .u64) := by kernel_rfl
theorem cv139_118 : tcv Try.prog 139 118 = some (some .u32) := by kernel_rfl
theorem cv139_120 : tcv Try.prog 139 120 = some (some .u64) := by kernel_rfl
theorem cv139_126 : tcv Try.prog 139 126 = some (some .i64) := by kernel_rfl
theorem cv139_139 : tcv Try.prog 139 139 = some (some .u64) := by kernel_rfl
theorem cv139_158 : tcv Try.prog 139 158 = some (some .u8) := by kernel_rfl
theorem cv139_159 : tcv Try.prog 139 159 = some (some .u8) := by kernel_rfl
theorem cv139_162 : tcv Try.prog 139 162 = some (some .i32) := by kernel_rfl
theorem cv139_163 : tcv Try.prog 139 163 = some (some .i32) := by kernel_rfl
theorem cv158_2 : tcv Try.prog 158 2 = some (some .i64) := by kernel_rfl
theorem cv158_3 : tcv Try.prog 158 3 = some (some .i64) := by kernel_rfl
theorem cv158_5 : tcv Try.prog 158 5 = some (some .u8) := by kernel_rfl
theorem cv158_6 : tcv Try.prog 158 6 = some (some .u8) := by kernel_rfl
theorem cv158_12 : tcv Try.prog 158 12 = some (some .u64) := by kernel_rfl
theorem cv158_21 : tcv Try.prog 158 21 = some (some .i32) := by kernel_rfl
theorem cv158_28 : tcv Try.prog 158 28 = some (some .i64) := by kernel_rfl
theorem cv158_53 : tcv Try.prog 158 53 = some (some .u16) := by kernel_rfl
theorem cv158_76 : tcv Try.prog 158 76 = some (some .u64) := by kernel_rfl
theorem cv158_77 : tcv Try.prog 158 77 = some (some .u64) := by kernel_rfl
theorem cv158_118 : tcv Try.prog 158 118 = some (some .u32) := by kernel_rfl
theorem cv158_120 : tcv Try.prog 158 120 = some (some .u64) := by kernel_rfl
theorem cv158_126 : tcv Try.prog 158 126 = some (some .i64) := by kernel_rfl
theorem cv158_139 : tcv Try.prog 158 139 = some (some .u64) := by kernel_rfl
theorem cv158_158 : tcv Try.prog 158 158 = some (some .u8) := by kernel_rfl
theorem cv158_159 : tcv Try.prog 158 159 = some (some .u8) := by kernel_rfl
theorem cv158_162 : tcv Try.prog 158 162 = some (some .i32) := by kernel_rfl
theorem cv158_163 : tcv Try.prog 158 163 = some (some .i32) := by kernel_rfl
theorem cv159_2 : tcv Try.prog 159 2 = some (some .i64) := by kernel_rfl
theorem cv159_3 : tcv Try.prog 159 3 = some (some .i64) := by kernel_rfl
theorem cv159_5 : tcv Try.prog 159 5 = some (some .u8) := by kernel_rfl
theorem cv159_6 : tcv Try.prog 159 6 = some (some .u8) := by kernel_rfl
theorem cv159_12 : tcv Try.prog 159 12 = some (some .u64) := by kernel_rfl
theorem cv159_21 : tcv Try.prog 159 21 = some (some .i32) := by kernel_rfl
theorem cv159_28 : tcv Try.prog 159 28 = some (some .i64) := by kernel_rfl
theorem cv159_53 : tcv Try.prog 159 53 = some (some .u16) := by kernel_rfl
theorem cv159_76 : tcv Try.prog 159 76 = some (some .u64) := by kernel_rfl
theorem cv159_77 : tcv Try.prog 159 77 = some (some .u64) := by kernel_rfl
theorem cv159_118 : tcv Try.prog 159 118 = some (some .u32) := by kernel_rfl
theorem cv159_120 : tcv Try.prog 159 120 = some (some .u64) := by kernel_rfl
theorem cv159_126 : tcv Try.prog 159 126 = some (some .i64) := by kernel_rfl
theorem cv159_139 : tcv Try.prog 159 139 = some (some .u64) := by kernel_rfl
theorem cv159_158 : tcv Try.prog 159 158 = some (some .u8) := by kernel_rfl
theorem cv159_159 : tcv Try.prog 159 159 = some (some .u8) := by kernel_rfl
theorem cv159_162 : tcv Try.prog 159 162 = some (some .i32) := by kernel_rfl
theorem cv159_163 : tcv Try.prog 159 163 = some (some .i32) := by kernel_rfl
theorem cv162_2 : tcv Try.prog 162 2 = some (some .i64) := by kernel_rfl
theorem cv162_3 : tcv Try.prog 162 3 = some (some .i64) := by kernel_rfl
theorem cv162_5 : tcv Try.prog 162 5 = some (some .u8) := by kernel_rfl
theorem cv162_6 : tcv Try.prog 162 6 = some (some .u8) := by kernel_rfl
theorem cv162_12 : tcv Try.prog 162 12 = some (some .u64) := by kernel_rfl
theorem cv162_21 : tcv Try.prog 162 21 = some (some .i32) := by kernel_rfl
theorem cv162_28 : tcv Try.prog 162 28 = some (some .i64) := by kernel_rfl
theorem cv162_53 : tcv Try.prog 162 53 = some (some .u16) := by kernel_rfl
theorem cv162_76 : tcv Try.prog 162 76 = some (some .u64) := by kernel_rfl
theorem cv162_77 : tcv Try.prog 162 77 = some (some .u64) := by kernel_rfl
theorem cv162_118 : tcv Try.prog 162 118 = some (some .u32) := by kernel_rfl
theorem cv162_120 : tcv Try.prog 162 120 = some (some .u64) := by kernel_rfl
theorem cv162_126 : tcv Try.prog 162 126 = some (some .i64) := by kernel_rfl
theorem cv162_139 : tcv Try.prog 162 139 = some (some .u64) := by kernel_rfl
theorem cv162_158 : tcv Try.prog 162 158 = some (some .u8) := by kernel_rfl
theorem cv162_159 : tcv Try.prog 162 159 = some (some .u8) := by kernel_rfl
theorem cv162_162 : tcv Try.prog 162 162 = some (some .i32) := by kernel_rfl
theorem cv162_163 : tcv Try.prog 162 163 = some (some .i32) := by kernel_rfl
theorem cv163_2 : tcv Try.prog 163 2 = some (some .i64) := by kernel_rfl
theorem cv163_3 : tcv Try.prog 163 3 = some (some .i64) := by kernel_rfl
theorem cv163_5 : tcv Try.prog 163 5 = some (some .u8) := by kernel_rfl
theorem cv163_6 : tcv Try.prog 163 6 = some (some .u8) := by kernel_rfl
theorem cv163_12 : tcv Try.prog 163 12 = some (some .u64) := by kernel_rfl
theorem cv163_21 : tcv Try.prog 163 21 = some (some .i32) := by kernel_rfl
theorem cv163_28 : tcv Try.prog 163 28 = some (some .i64) := by kernel_rfl
theorem cv163_53 : tcv Try.prog 163 53 = some (some .u16) := by kernel_rfl
theorem cv163_76 : tcv Try.prog 163 76 = some (some .u64) := by kernel_rfl
theorem cv163_77 : tcv Try.prog 163 77 = some (some .u64) := by kernel_rfl
theorem cv163_118 : tcv Try.prog 163 118 = some (some .u32) := by kernel_rfl
theorem cv163_120 : tcv Try.prog 163 120 = some (some .u64) := by kernel_rfl
theorem cv163_126 : tcv Try.prog 163 126 = some (some .i64) := by kernel_rfl
theorem cv163_139 : tcv Try.prog 163 139 = some (some .u64) := by kernel_rfl
theorem cv163_158 : tcv Try.prog 163 158 = some (some .u8) := by kernel_rfl
theorem cv163_159 : tcv Try.prog 163 159 = some (some .u8) := by kernel_rfl
theorem cv163_162 : tcv Try.prog 163 162 = some (some .i32) := by kernel_rfl
theorem cv163_163 : tcv Try.prog 163 163 = some (some .i32) := by kernel_rfl
attribute [go_sem] sz1 ag1 zc1 sr1 sz2 ag2 zc2 sr2 sz3 ag3 zc3 sr3 sz4 ag4 zc4 sr4 bo4 sz5 ag5 zc5 sr5 sz6 ag6 zc6 sr6 sz7 ag7 zc7 sr7 fd7_0 fo7_0 fd7_1 fo7_1 fd7_2 fo7_2 fd7_3 fo7_3 pl7 bd7 sz8 ag8 zc8 sr8 fd8_0 fo8_0 fd8_1 fo8_1 fd8_2 fo8_2 fd8_3 fo8_3 pl8 bd8 sz9 ag9 zc9 sr9 cu9 ln9 sz10 ag10 zc10 sr10 cu10 ln10 sz11 ag11 zc11 sr11 cu11 ln11 sz12 ag12 zc12 sr12 sz13 ag13 zc13 sr13 fd13_0 fo13_0 fd13_1 fo13_1 pl13 bd13 sz14 ag14 zc14 sr14 fd14_0 fo14_0 fd14_1 fo14_1 pl14 bd14 sz15 ag15 zc15 sr15 sz16 ag16 zc16 sr16 sz17 ag17 zc17 sr17 sz18 ag18 zc18 sr18 fd18_0 fo18_0 pl18 bd18 sz19 ag19 zc19 sr19 fd19_0 fo19_0 pl19 bd19 sz20 ag20 zc20 sr20 sz21 ag21 zc21 sr21 sz22 ag22 zc22 sr22 el22 cu22 ap22 bs22 ms22 mm22 mc22 mb22 ma22 ae22_22 ln22 sz23 ag23 zc23 sr23 fd23_0 fo23_0 fd23_1 fo23_1 fd23_2 fo23_2 pl23 bd23 sz24 ag24 zc24 sr24 fd24_0 fo24_0 fd24_1 fo24_1 fd24_2 fo24_2 pl24 bd24 sz25 ag25 zc25 sr25 el25 cu25 ap25 bs25 ms25 mm25 mc25 mb25 ma25 ae25_25 ln25 sz26 ag26 zc26 sr26 sz27 ag27 zc27 sr27 sz28 ag28 zc28 sr28 sz30 ag30 zc30 sr30 sz31 ag31 zc31 sr31 sz33 ag33 zc33 sr33 sz34 ag34 zc34 sr34 sz35 ag35 zc35 sr35 sz36 ag36 zc36 sr36 sz37 ag37 zc37 sr37 sz38 ag38 zc38 sr38 sz39 ag39 zc39 sr39 sz40 ag40 zc40 sr40 el40 cu40 ap40 bs40 ms40 mm40 mc40 mb40 ma40 ae40_40 ln40 sz42 ag42 zc42 sr42 sz43 ag43 zc43 sr43 sz44 ag44 zc44 sr44 sz45 ag45 zc45 sr45 sz46 ag46 zc46 sr46 sz48 ag48 zc48 sr48 sz49 ag49 zc49 sr49 sz50 ag50 zc50 sr50 sz51 ag51 zc51 sr51 el51 cu51 ap51 bs51 ms51 mm51 mc51 mb51 ma51 ae51_51 ln51 sz52 ag52 zc52 sr52 sz53 ag53 zc53 sr53 sz54 ag54 zc54 sr54 sz55 ag55 zc55 sr55 sz56 ag56 zc56 sr56 ln56 mk56 sz57 ag57 zc57 sr57 sz58 ag58 zc58 sr58 sz59 ag59 zc59 sr59 fd59_0 fo59_0 fd59_1 fo59_1 fd59_2 fo59_2 fd59_3 fo59_3 fd59_4 fo59_4 fd59_5 fo59_5 fd59_6 fo59_6 fd59_7 fo59_7 pl59 bd59 sz60 ag60 zc60 sr60 el60 cu60 ap60 bs60 ms60 mm60 mc60 mb60 ma60 ae60_60 ln60 sz61 ag61 zc61 sr61 fd61_0 fo61_0 fd61_1 fo61_1 pl61 bd61 sz62 ag62 zc62 sr62 fd62_0 fo62_0 fd62_1 fo62_1 pl62 bd62 sz64 ag64 zc64 sr64 sz66 ag66 zc66 sr66 sz67 ag67 zc67 sr67 sz68 ag68 zc68 sr68 sz69 ag69 zc69 sr69 sz70 ag70 zc70 sr70 sz71 ag71 zc71 sr71 sz72 ag72 zc72 sr72 sz73 ag73 zc73 sr73 sz74 ag74 zc74 sr74 sz75 ag75 zc75 sr75 sz76 ag76 zc76 sr76 sz77 ag77 zc77 sr77 sz78 ag78 zc78 sr78 sz79 ag79 zc79 sr79 fd79_0 fo79_0 fd79_1 fo79_1 fd79_2 fo79_2 pl79 bd79 sz80 ag80 zc80 sr80 fd80_0 fo80_0 fd80_1 fo80_1 fd80_2 fo80_2 pl80 bd80 sz82 ag82 zc82 sr82 sz83 ag83 zc83 sr83 sz84 ag84 zc84 sr84 sz85 ag85 zc85 sr85 el85 cu85 ap85 bs85 ms85 mm85 mc85 mb85 ma85 ae85_85 ln85 sz87 ag87 zc87 sr87 sz88 ag88 zc88 sr88 sz89 ag89 zc89 sr89 sz90 ag90 zc90 sr90 ln90 mk90 sz91 ag91 zc91 sr91 sz92 ag92 zc92 sr92 sz93 ag93 zc93 sr93 sz94 ag94 zc94 sr94 sz95 ag95 zc95 sr95 sz96 ag96 zc96 sr96 sz97 ag97 zc97 sr97 sz98 ag98 zc98 sr98 sz99 ag99 zc99 sr99 sz100 ag100 zc100 sr100 sz101 ag101 zc101 sr101 sz102 ag102 zc102 sr102 sz103 ag103 zc103 sr103 sz104 ag104 zc104 sr104 sz105 ag105 zc105 sr105 el105 cu105 ap105 bs105 ms105 mm105 mc105 mb105 ma105 ae105_105 ln105 sz106 ag106 zc106 sr106 sz107 ag107 zc107 sr107 sz108 ag108 zc108 sr108 sz109 ag109 zc109 sr109 sz110 ag110 zc110 sr110 sz111 ag111 zc111 sr111 sz113 ag113 zc113 sr113 sz114 ag114 zc114 sr114 sz115 ag115 zc115 sr115 sz116 ag116 zc116 sr116 sz117 ag117 zc117 sr117 sz118 ag118 zc118 sr118 sz119 ag119 zc119 sr119 sz120 ag120 zc120 sr120 sz121 ag121 zc121 sr121 sz122 ag122 zc122 sr122 sz123 ag123 zc123 sr123 sz124 ag124 zc124 sr124 sz125 ag125 zc125 sr125 sz126 ag126 zc126 sr126 sz128 ag128 zc128 sr128 sz129 ag129 zc129 sr129 sz130 ag130 zc130 sr130 sz131 ag131 zc131 sr131 sz132 ag132 zc132 sr132 sz133 ag133 zc133 sr133 sz134 ag134 zc134 sr134 sz135 ag135 zc135 sr135 sz136 ag136 zc136 sr136 sz137 ag137 zc137 sr137 sz138 ag138 zc138 sr138 sz139 ag139 zc139 sr139 sz140 ag140 zc140 sr140 sz141 ag141 zc141 sr141 sz142 ag142 zc142 sr142 sz143 ag143 zc143 sr143 sz144 ag144 zc144 sr144 sz145 ag145 zc145 sr145 sz146 ag146 zc146 sr146 sz147 ag147 zc147 sr147 sz149 ag149 zc149 sr149 sz150 ag150 zc150 sr150 sz151 ag151 zc151 sr151 sz152 ag152 zc152 sr152 fd152_0 fo152_0 fd152_1 fo152_1 fd152_2 fo152_2 fd152_3 fo152_3 pl152 bd152 sz153 ag153 zc153 sr153 fd153_0 fo153_0 fd153_1 fo153_1 fd153_2 fo153_2 fd153_3 fo153_3 pl153 bd153 sz154 ag154 zc154 sr154 el154 ln154 sz155 ag155 zc155 sr155 fd155_0 pl155 bd155 sz156 ag156 zc156 sr156 fd156_0 pl156 bd156 sz157 ag157 zc157 sr157 sz158 ag158 zc158 sr158 sz159 ag159 zc159 sr159 sz160 ag160 zc160 sr160 sz161 ag161 zc161 sr161 sz162 ag162 zc162 sr162 sz163 ag163 zc163 sr163 sz164 ag164 zc164 sr164 fd164_0 fo164_0 fd164_1 fo164_1 fd164_2 fo164_2 fd164_3 fo164_3 fd164_4 fo164_4 fd164_5 fo164_5 fd164_6 fo164_6 fd164_7 fo164_7 fd164_8 fo164_8 fd164_9 fo164_9 fd164_10 fo164_10 pl164 bd164 sz165 ag165 zc165 sr165 fd165_0 fo165_0 fd165_1 fo165_1 fd165_2 fo165_2 fd165_3 fo165_3 fd165_4 fo165_4 fd165_5 fo165_5 fd165_6 fo165_6 fd165_7 fo165_7 fd165_8 fo165_8 fd165_9 fo165_9 fd165_10 fo165_10 pl165 bd165 sz166 ag166 zc166 sr166 mu56 mu90 ar154 ba154 cv2_2 cv2_3 cv2_5 cv2_6 cv2_12 cv2_21 cv2_28 cv2_53 cv2_76 cv2_77 cv2_118 cv2_120 cv2_126 cv2_139 cv2_158 cv2_159 cv2_162 cv2_163 cv3_2 cv3_3 cv3_5 cv3_6 cv3_12 cv3_21 cv3_28 cv3_53 cv3_76 cv3_77 cv3_118 cv3_120 cv3_126 cv3_139 cv3_158 cv3_159 cv3_162 cv3_163 cv5_2 cv5_3 cv5_5 cv5_6 cv5_12 cv5_21 cv5_28 cv5_53 cv5_76 cv5_77 cv5_118 cv5_120 cv5_126 cv5_139 cv5_158 cv5_159 cv5_162 cv5_163 cv6_2 cv6_3 cv6_5 cv6_6 cv6_12 cv6_21 cv6_28 cv6_53 cv6_76 cv6_77 cv6_118 cv6_120 cv6_126 cv6_139 cv6_158 cv6_159 cv6_162 cv6_163 cv9_9 cv9_10 cv9_11 cv10_9 cv10_10 cv10_11 cv11_9 cv11_10 cv11_11 cv12_2 cv12_3 cv12_5 cv12_6 cv12_12 cv12_21 cv12_28 cv12_53 cv12_76 cv12_77 cv12_118 cv12_120 cv12_126 cv12_139 cv12_158 cv12_159 cv12_162 cv12_163 cv21_2 cv21_3 cv21_5 cv21_6 cv21_12 cv21_21 cv21_28 cv21_53 cv21_76 cv21_77 cv21_118 cv21_120 cv21_126 cv21_139 cv21_158 cv21_159 cv21_162 cv21_163 cv28_2 cv28_3 cv28_5 cv28_6 cv28_12 cv28_21 cv28_28 cv28_53 cv28_76 cv28_77 cv28_118 cv28_120 cv28_126 cv28_139 cv28_158 cv28_159 cv28_162 cv28_163 cv53_2 cv53_3 cv53_5 cv53_6 cv53_12 cv53_21 cv53_28 cv53_53 cv53_76 cv53_77 cv53_118 cv53_120 cv53_126 cv53_139 cv53_158 cv53_159 cv53_162 cv53_163 cv76_2 cv76_3 cv76_5 cv76_6 cv76_12 cv76_21 cv76_28 cv76_53 cv76_76 cv76_77 cv76_118 cv76_120 cv76_126 cv76_139 cv76_158 cv76_159 cv76_162 cv76_163 cv77_2 cv77_3 cv77_5 cv77_6 cv77_12 cv77_21 cv77_28 cv77_53 cv77_76 cv77_77 cv77_118 cv77_120 cv77_126 cv77_139 cv77_158 cv77_159 cv77_162 cv77_163 cv118_2 cv118_3 cv118_5 cv118_6 cv118_12 cv118_21 cv118_28 cv118_53 cv118_76 cv118_77 cv118_118 cv118_120 cv118_126 cv118_139 cv118_158 cv118_159 cv118_162 cv118_163 cv120_2 cv120_3 cv120_5 cv120_6 cv120_12 cv120_21 cv120_28 cv120_53 cv120_76 cv120_77 cv120_118 cv120_120 cv120_126 cv120_139 cv120_158 cv120_159 cv120_162 cv120_163 cv126_2 cv126_3 cv126_5 cv126_6 cv126_12 cv126_21 cv126_28 cv126_53 cv126_76 cv126_77 cv126_118 cv126_120 cv126_126 cv126_139 cv126_158 cv126_159 cv126_162 cv126_163 cv139_2 cv139_3 cv139_5 cv139_6 cv139_12 cv139_21 cv139_28 cv139_53 cv139_76 cv139_77 cv139_118 cv139_120 cv139_126 cv139_139 cv139_158 cv139_159 cv139_162 cv139_163 cv158_2 cv158_3 cv158_5 cv158_6 cv158_12 cv158_21 cv158_28 cv158_53 cv158_76 cv158_77 cv158_118 cv158_120 cv158_126 cv158_139 cv158_158 cv158_159 cv158_162 cv158_163 cv159_2 cv159_3 cv159_5 cv159_6 cv159_12 cv159_21 cv159_28 cv159_53 cv159_76 cv159_77 cv159_118 cv159_120 cv159_126 cv159_139 cv159_158 cv159_159 cv159_162 cv159_163 cv162_2 cv162_3 cv162_5 cv162_6 cv162_12 cv162_21 cv162_28 cv162_53 cv162_76 cv162_77 cv162_118 cv162_120 cv162_126 cv162_139 cv162_158 cv162_159 cv162_162 cv162_163 cv163_2 cv163_3 cv163_5 cv163_6 cv163_12 cv163_21 cv163_28 cv163_53 cv163_76 cv163_77 cv163_118 cv163_120 cv163_126 cv163_139 cv163_158 cv163_159 cv163_162 cv163_163
end Go.Proofs.Ytnioapinljedmaa.Ty
