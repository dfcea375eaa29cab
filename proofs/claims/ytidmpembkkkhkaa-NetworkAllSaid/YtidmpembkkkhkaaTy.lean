/- The closed facts on the types of this translation: cells, zero values, places of fields, elements. By program; no conditions. -/
import Derived.Test.YtidmpembkkkhkaaProg
import Derived.Test.YtidmpembkkkhkaaAbsN
import Derived.KernelRfl
namespace Go.Proofs.Ytidmpembkkkhkaa.Ty
open Go Go.Proofs Go.Abs
theorem mixed : Try.prog.follows .mixedOrders = true := by kernel_rfl
theorem sz1 : tsz Try.prog 1 = some 1 := by kernel_rfl
theorem ag1 : tag Try.prog 1 = some none := by kernel_rfl
theorem zc1 : tzc Try.prog 1 = some [.nilFunc] := by kernel_rfl
theorem sr1 : tsrc Try.prog 1 = true := by kernel_rfl
theorem sz2 : tsz Try.prog 2 = some 1 := by kernel_rfl
theorem ag2 : tag Try.prog 2 = some none := by kernel_rfl
theorem zc2 : tzc Try.prog 2 = some [(.int .i64 0)] := by kernel_rfl
theorem sr2 : tsrc Try.prog 2 = false := by kernel_rfl
theorem sz3 : tsz Try.prog 3 = some 1 := by kernel_rfl
theorem ag3 : tag Try.prog 3 = some none := by kernel_rfl
theorem zc3 : tzc Try.prog 3 = some [(.int .i64 0)] := by kernel_rfl
theorem sr3 : tsrc Try.prog 3 = false := by kernel_rfl
theorem sz4 : tsz Try.prog 4 = some 1 := by kernel_rfl
theorem ag4 : tag Try.prog 4 = some none := by kernel_rfl
theorem zc4 : tzc Try.prog 4 = some [(.bool false)] := by kernel_rfl
theorem sr4 : tsrc Try.prog 4 = true := by kernel_rfl
theorem bo4 : tbool Try.prog 4 = true := by kernel_rfl
theorem sz5 : tsz Try.prog 5 = some 1 := by kernel_rfl
theorem ag5 : tag Try.prog 5 = some none := by kernel_rfl
theorem zc5 : tzc Try.prog 5 = some [(.int .u8 0)] := by kernel_rfl
theorem sr5 : tsrc Try.prog 5 = false := by kernel_rfl
theorem sz6 : tsz Try.prog 6 = some 1 := by kernel_rfl
theorem ag6 : tag Try.prog 6 = some none := by kernel_rfl
theorem zc6 : tzc Try.prog 6 = some [(.int .u8 0)] := by kernel_rfl
theorem sr6 : tsrc Try.prog 6 = false := by kernel_rfl
theorem sz7 : tsz Try.prog 7 = some 4 := by kernel_rfl
theorem ag7 : tag Try.prog 7 = some (some 4) := by kernel_rfl
theorem zc7 : tzc Try.prog 7 = some [(.int .i64 0), (.int .i64 0), (.bool false), (.int .u8 0)] := by kernel_rfl
theorem sr7 : tsrc Try.prog 7 = true := by kernel_rfl
theorem fd7_0 : tfd Try.prog 7 0 = some (0, 2) := by kernel_rfl
theorem fo7_0 : tfo Try.prog 7 0 = some 0 := by kernel_rfl
theorem fd7_1 : tfd Try.prog 7 1 = some (1, 3) := by kernel_rfl
theorem fo7_1 : tfo Try.prog 7 1 = some 1 := by kernel_rfl
theorem fd7_2 : tfd Try.prog 7 2 = some (2, 4) := by kernel_rfl
theorem fo7_2 : tfo Try.prog 7 2 = some 2 := by kernel_rfl
theorem fd7_3 : tfd Try.prog 7 3 = some (3, 6) := by kernel_rfl
theorem fo7_3 : tfo Try.prog 7 3 = some 3 := by kernel_rfl
theorem pl7 : tpl Try.prog 7 = some [(0, 1), (1, 1), (2, 1), (3, 1)] := by kernel_rfl
theorem bd7 (ps : List (Nat × AV)) (K : AV → Prop) : aBuild Try.prog 7 ps K = aBld (tpl Try.prog 7) (tzc Try.prog 7) ps K := aBuild_eq (by rw [pl7]; rfl) ps K
theorem sz8 : tsz Try.prog 8 = some 4 := by kernel_rfl
theorem ag8 : tag Try.prog 8 = some (some 4) := by kernel_rfl
theorem zc8 : tzc Try.prog 8 = some [(.int .i64 0), (.int .i64 0), (.bool false), (.int .u8 0)] := by kernel_rfl
theorem sr8 : tsrc Try.prog 8 = true := by kernel_rfl
theorem fd8_0 : tfd Try.prog 8 0 = some (0, 2) := by kernel_rfl
theorem fo8_0 : tfo Try.prog 8 0 = some 0 := by kernel_rfl
theorem fd8_1 : tfd Try.prog 8 1 = some (1, 3) := by kernel_rfl
theorem fo8_1 : tfo Try.prog 8 1 = some 1 := by kernel_rfl
theorem fd8_2 : tfd Try.prog 8 2 = some (2, 4) := by kernel_rfl
theorem fo8_2 : tfo Try.prog 8 2 = some 2 := by kernel_rfl
theorem fd8_3 : tfd Try.prog 8 3 = some (3, 6) := by kernel_rfl
theorem fo8_3 : tfo Try.prog 8 3 = some 3 := by kernel_rfl
theorem pl8 : tpl Try.prog 8 = some [(0, 1), (1, 1), (2, 1), (3, 1)] := by kernel_rfl
theorem bd8 (ps : List (Nat × AV)) (K : AV → Prop) : aBuild Try.prog 8 ps K = aBld (tpl Try.prog 8) (tzc Try.prog 8) ps K := aBuild_eq (by rw [pl8]; rfl) ps K
theorem sz9 : tsz Try.prog 9 = some 1 := by kernel_rfl
theorem ag9 : tag Try.prog 9 = some none := by kernel_rfl
theorem zc9 : tzc Try.prog 9 = some [(.str ⟨#[]⟩)] := by kernel_rfl
theorem sr9 : tsrc Try.prog 9 = true := by kernel_rfl
theorem cu9 : tcut Try.prog 9 = some none := by kernel_rfl
theorem ln9 : tlen Try.prog 9 = some .str := by kernel_rfl
theorem sz10 : tsz Try.prog 10 = some 1 := by kernel_rfl
theorem ag10 : tag Try.prog 10 = some none := by kernel_rfl
theorem zc10 : tzc Try.prog 10 = some [(.str ⟨#[]⟩)] := by kernel_rfl
theorem sr10 : tsrc Try.prog 10 = true := by kernel_rfl
theorem cu10 : tcut Try.prog 10 = some none := by kernel_rfl
theorem ln10 : tlen Try.prog 10 = some .str := by kernel_rfl
theorem sz11 : tsz Try.prog 11 = some 1 := by kernel_rfl
theorem ag11 : tag Try.prog 11 = some none := by kernel_rfl
theorem zc11 : tzc Try.prog 11 = some [(.str ⟨#[]⟩)] := by kernel_rfl
theorem sr11 : tsrc Try.prog 11 = true := by kernel_rfl
theorem cu11 : tcut Try.prog 11 = some none := by kernel_rfl
theorem ln11 : tlen Try.prog 11 = some .str := by kernel_rfl
theorem sz12 : tsz Try.prog 12 = some 1 := by kernel_rfl
theorem ag12 : tag Try.prog 12 = some none := by kernel_rfl
theorem zc12 : tzc Try.prog 12 = some [(.int .u64 0)] := by kernel_rfl
theorem sr12 : tsrc Try.prog 12 = false := by kernel_rfl
theorem sz13 : tsz Try.prog 13 = some 2 := by kernel_rfl
theorem ag13 : tag Try.prog 13 = some (some 2) := by kernel_rfl
theorem zc13 : tzc Try.prog 13 = some [(.str ⟨#[]⟩), (.int .u64 0)] := by kernel_rfl
theorem sr13 : tsrc Try.prog 13 = true := by kernel_rfl
theorem fd13_0 : tfd Try.prog 13 0 = some (0, 9) := by kernel_rfl
theorem fo13_0 : tfo Try.prog 13 0 = some 0 := by kernel_rfl
theorem fd13_1 : tfd Try.prog 13 1 = some (1, 12) := by kernel_rfl
theorem fo13_1 : tfo Try.prog 13 1 = some 1 := by kernel_rfl
theorem pl13 : tpl Try.prog 13 = some [(0, 1), (1, 1)] := by kernel_rfl
theorem bd13 (ps : List (Nat × AV)) (K : AV → Prop) : aBuild Try.prog 13 ps K = aBld (tpl Try.prog 13) (tzc Try.prog 13) ps K := aBuild_eq (by rw [pl13]; rfl) ps K
theorem sz14 : tsz Try.prog 14 = some 2 := by kernel_rfl
theorem ag14 : tag Try.prog 14 = some (some 2) := by kernel_rfl
theorem zc14 : tzc Try.prog 14 = some [(.str ⟨#[]⟩), (.int .u64 0)] := by kernel_rfl
theorem sr14 : tsrc Try.prog 14 = true := by kernel_rfl
theorem fd14_0 : tfd Try.prog 14 0 = some (0, 9) := by kernel_rfl
theorem fo14_0 : tfo Try.prog 14 0 = some 0 := by kernel_rfl
theorem fd14_1 : tfd Try.prog 14 1 = some (1, 12) := by kernel_rfl
theorem fo14_1 : tfo Try.prog 14 1 = some 1 := by kernel_rfl
theorem pl14 : tpl Try.prog 14 = some [(0, 1), (1, 1)] := by kernel_rfl
theorem bd14 (ps : List (Nat × AV)) (K : AV → Prop) : aBuild Try.prog 14 ps K = aBld (tpl Try.prog 14) (tzc Try.prog 14) ps K := aBuild_eq (by rw [pl14]; rfl) ps K
theorem sz15 : tsz Try.prog 15 = some 1 := by kernel_rfl
theorem ag15 : tag Try.prog 15 = some none := by kernel_rfl
theorem zc15 : tzc Try.prog 15 = some [(.ptr none)] := by kernel_rfl
theorem sr15 : tsrc Try.prog 15 = true := by kernel_rfl
theorem sz16 : tsz Try.prog 16 = some 1 := by kernel_rfl
theorem ag16 : tag Try.prog 16 = some none := by kernel_rfl
theorem zc16 : tzc Try.prog 16 = some [(.ptr none)] := by kernel_rfl
theorem sr16 : tsrc Try.prog 16 = true := by kernel_rfl
theorem sz17 : tsz Try.prog 17 = some 1 := by kernel_rfl
theorem ag17 : tag Try.prog 17 = some none := by kernel_rfl
theorem zc17 : tzc Try.prog 17 = some [(.ptr none)] := by kernel_rfl
theorem sr17 : tsrc Try.prog 17 = true := by kernel_rfl
theorem sz18 : tsz Try.prog 18 = some 1 := by kernel_rfl
theorem ag18 : tag Try.prog 18 = some (some 1) := by kernel_rfl
theorem zc18 : tzc Try.prog 18 = some [(.ptr none)] := by kernel_rfl
theorem sr18 : tsrc Try.prog 18 = true := by kernel_rfl
theorem fd18_0 : tfd Try.prog 18 0 = some (0, 17) := by kernel_rfl
theorem fo18_0 : tfo Try.prog 18 0 = some 0 := by kernel_rfl
theorem pl18 : tpl Try.prog 18 = some [(0, 1)] := by kernel_rfl
theorem bd18 (ps : List (Nat × AV)) (K : AV → Prop) : aBuild Try.prog 18 ps K = aBld (tpl Try.prog 18) (tzc Try.prog 18) ps K := aBuild_eq (by rw [pl18]; rfl) ps K
theorem sz19 : tsz Try.prog 19 = some 1 := by kernel_rfl
theorem ag19 : tag Try.prog 19 = some (some 1) := by kernel_rfl
theorem zc19 : tzc Try.prog 19 = some [(.ptr none)] := by kernel_rfl
theorem sr19 : tsrc Try.prog 19 = true := by kernel_rfl
theorem fd19_0 : tfd Try.prog 19 0 = some (0, 17) := by kernel_rfl
theorem fo19_0 : tfo Try.prog 19 0 = some 0 := by kernel_rfl
theorem pl19 : tpl Try.prog 19 = some [(0, 1)] := by kernel_rfl
theorem bd19 (ps : List (Nat × AV)) (K : AV → Prop) : aBuild Try.prog 19 ps K = aBld (tpl Try.prog 19) (tzc Try.prog 19) ps K := aBuild_eq (by rw [pl19]; rfl) ps K
theorem sz20 : tsz Try.prog 20 = some 1 := by kernel_rfl
theorem ag20 : tag Try.prog 20 = some none := by kernel_rfl
theorem zc20 : tzc Try.prog 20 = some [.nilIface] := by kernel_rfl
theorem sr20 : tsrc Try.prog 20 = true := by kernel_rfl
theorem sz21 : tsz Try.prog 21 = some 1 := by kernel_rfl
theorem ag21 : tag Try.prog 21 = some none := by kernel_rfl
theorem zc21 : tzc Try.prog 21 = some [(.int .i32 0)] := by kernel_rfl
theorem sr21 : tsrc Try.prog 21 = false := by kernel_rfl
theorem sz22 : tsz Try.prog 22 = some 1 := by kernel_rfl
theorem ag22 : tag Try.prog 22 = some none := by kernel_rfl
theorem zc22 : tzc Try.prog 22 = some [(.sl [] .full)] := by kernel_rfl
theorem sr22 : tsrc Try.prog 22 = true := by kernel_rfl
theorem el22 : tel Try.prog 22 = some (none, 3) := by kernel_rfl
theorem cu22 : tcut Try.prog 22 = some (some 3) := by kernel_rfl
theorem ap22 : tap Try.prog 22 = some (3, 40) := by kernel_rfl
theorem bs22 : tbs Try.prog 22 = some 3 := by kernel_rfl
theorem ae22_22 (s x : AV) (h : AH) (K : AV → AH → Prop) : aAppend Try.prog 22 22 s x h K = aAp (tap Try.prog 22) s x h K := aAppend_eq sr22 s x K
theorem ln22 : tlen Try.prog 22 = some .sl := by kernel_rfl
theorem sz23 : tsz Try.prog 23 = some 1 := by kernel_rfl
theorem ag23 : tag Try.prog 23 = some none := by kernel_rfl
theorem zc23 : tzc Try.prog 23 = some [(.sl [] .full)] := by kernel_rfl
theorem sr23 : tsrc Try.prog 23 = true := by kernel_rfl
theorem el23 : tel Try.prog 23 = some (none, 2) := by kernel_rfl
theorem cu23 : tcut Try.prog 23 = some (some 2) := by kernel_rfl
theorem ap23 : tap Try.prog 23 = some (2, 16) := by kernel_rfl
theorem bs23 : tbs Try.prog 23 = some 2 := by kernel_rfl
theorem ae23_23 (s x : AV) (h : AH) (K : AV → AH → Prop) : aAppend Try.prog 23 23 s x h K = aAp (tap Try.prog 23) s x h K := aAppend_eq sr23 s x K
theorem ln23 : tlen Try.prog 23 = some .sl := by kernel_rfl
theorem sz24 : tsz Try.prog 24 = some 2 := by kernel_rfl
theorem ag24 : tag Try.prog 24 = some (some 2) := by kernel_rfl
theorem zc24 : tzc Try.prog 24 = some [(.sl [] .full), (.sl [] .full)] := by kernel_rfl
theorem sr24 : tsrc Try.prog 24 = true := by kernel_rfl
theorem fd24_0 : tfd Try.prog 24 0 = some (0, 22) := by kernel_rfl
theorem fo24_0 : tfo Try.prog 24 0 = some 0 := by kernel_rfl
theorem fd24_1 : tfd Try.prog 24 1 = some (1, 23) := by kernel_rfl
theorem fo24_1 : tfo Try.prog 24 1 = some 1 := by kernel_rfl
theorem pl24 : tpl Try.prog 24 = some [(0, 1), (1, 1)] := by kernel_rfl
theorem bd24 (ps : List (Nat × AV)) (K : AV → Prop) : aBuild Try.prog 24 ps K = aBld (tpl Try.prog 24) (tzc Try.prog 24) ps K := aBuild_eq (by rw [pl24]; rfl) ps K
theorem sz25 : tsz Try.prog 25 = some 2 := by kernel_rfl
theorem ag25 : tag Try.prog 25 = some (some 2) := by kernel_rfl
theorem zc25 : tzc Try.prog 25 = some [(.sl [] .full), (.sl [] .full)] := by kernel_rfl
theorem sr25 : tsrc Try.prog 25 = true := by kernel_rfl
theorem fd25_0 : tfd Try.prog 25 0 = some (0, 22) := by kernel_rfl
theorem fo25_0 : tfo Try.prog 25 0 = some 0 := by kernel_rfl
theorem fd25_1 : tfd Try.prog 25 1 = some (1, 23) := by kernel_rfl
theorem fo25_1 : tfo Try.prog 25 1 = some 1 := by kernel_rfl
theorem pl25 : tpl Try.prog 25 = some [(0, 1), (1, 1)] := by kernel_rfl
theorem bd25 (ps : List (Nat × AV)) (K : AV → Prop) : aBuild Try.prog 25 ps K = aBld (tpl Try.prog 25) (tzc Try.prog 25) ps K := aBuild_eq (by rw [pl25]; rfl) ps K
theorem sz26 : tsz Try.prog 26 = some 1 := by kernel_rfl
theorem ag26 : tag Try.prog 26 = some none := by kernel_rfl
theorem zc26 : tzc Try.prog 26 = some [(.sl [] .full)] := by kernel_rfl
theorem sr26 : tsrc Try.prog 26 = true := by kernel_rfl
theorem el26 : tel Try.prog 26 = some (none, 1) := by kernel_rfl
theorem cu26 : tcut Try.prog 26 = some (some 1) := by kernel_rfl
theorem ap26 : tap Try.prog 26 = some (1, 1) := by kernel_rfl
theorem bs26 : tbs Try.prog 26 = some 1 := by kernel_rfl
theorem ae26_26 (s x : AV) (h : AH) (K : AV → AH → Prop) : aAppend Try.prog 26 26 s x h K = aAp (tap Try.prog 26) s x h K := aAppend_eq sr26 s x K
theorem ln26 : tlen Try.prog 26 = some .sl := by kernel_rfl
theorem sz27 : tsz Try.prog 27 = some 3 := by kernel_rfl
theorem ag27 : tag Try.prog 27 = some (some 3) := by kernel_rfl
theorem zc27 : tzc Try.prog 27 = some [(.int .i64 0), (.int .i64 0), (.sl [] .full)] := by kernel_rfl
theorem sr27 : tsrc Try.prog 27 = true := by kernel_rfl
theorem fd27_0 : tfd Try.prog 27 0 = some (0, 3) := by kernel_rfl
theorem fo27_0 : tfo Try.prog 27 0 = some 0 := by kernel_rfl
theorem fd27_1 : tfd Try.prog 27 1 = some (1, 3) := by kernel_rfl
theorem fo27_1 : tfo Try.prog 27 1 = some 1 := by kernel_rfl
theorem fd27_2 : tfd Try.prog 27 2 = some (2, 26) := by kernel_rfl
theorem fo27_2 : tfo Try.prog 27 2 = some 2 := by kernel_rfl
theorem pl27 : tpl Try.prog 27 = some [(0, 1), (1, 1), (2, 1)] := by kernel_rfl
theorem bd27 (ps : List (Nat × AV)) (K : AV → Prop) : aBuild Try.prog 27 ps K = aBld (tpl Try.prog 27) (tzc Try.prog 27) ps K := aBuild_eq (by rw [pl27]; rfl) ps K
theorem sz28 : tsz Try.prog 28 = some 3 := by kernel_rfl
theorem ag28 : tag Try.prog 28 = some (some 3) := by kernel_rfl
theorem zc28 : tzc Try.prog 28 = some [(.int .i64 0), (.int .i64 0), (.sl [] .full)] := by kernel_rfl
theorem sr28 : tsrc Try.prog 28 = true := by kernel_rfl
theorem fd28_0 : tfd Try.prog 28 0 = some (0, 3) := by kernel_rfl
theorem fo28_0 : tfo Try.prog 28 0 = some 0 := by kernel_rfl
theorem fd28_1 : tfd Try.prog 28 1 = some (1, 3) := by kernel_rfl
theorem fo28_1 : tfo Try.prog 28 1 = some 1 := by kernel_rfl
theorem fd28_2 : tfd Try.prog 28 2 = some (2, 26) := by kernel_rfl
theorem fo28_2 : tfo Try.prog 28 2 = some 2 := by kernel_rfl
theorem pl28 : tpl Try.prog 28 = some [(0, 1), (1, 1), (2, 1)] := by kernel_rfl
theorem bd28 (ps : List (Nat × AV)) (K : AV → Prop) : aBuild Try.prog 28 ps K = aBld (tpl Try.prog 28) (tzc Try.prog 28) ps K := aBuild_eq (by rw [pl28]; rfl) ps K
theorem sz29 : tsz Try.prog 29 = some 1 := by kernel_rfl
theorem ag29 : tag Try.prog 29 = some none := by kernel_rfl
theorem zc29 : tzc Try.prog 29 = some [.nilFunc] := by kernel_rfl
theorem sr29 : tsrc Try.prog 29 = true := by kernel_rfl
theorem sz30 : tsz Try.prog 30 = some 1 := by kernel_rfl
theorem ag30 : tag Try.prog 30 = some none := by kernel_rfl
theorem zc30 : tzc Try.prog 30 = some [.nilFunc] := by kernel_rfl
theorem sr30 : tsrc Try.prog 30 = true := by kernel_rfl
theorem sz31 : tsz Try.prog 31 = some 1 := by kernel_rfl
theorem ag31 : tag Try.prog 31 = some none := by kernel_rfl
theorem zc31 : tzc Try.prog 31 = some [(.int .i64 0)] := by kernel_rfl
theorem sr31 : tsrc Try.prog 31 = false := by kernel_rfl
theorem sz33 : tsz Try.prog 33 = some 1 := by kernel_rfl
theorem ag33 : tag Try.prog 33 = some none := by kernel_rfl
theorem zc33 : tzc Try.prog 33 = some [.nilFunc] := by kernel_rfl
theorem sr33 : tsrc Try.prog 33 = true := by kernel_rfl
theorem sz34 : tsz Try.prog 34 = some 1 := by kernel_rfl
theorem ag34 : tag Try.prog 34 = some none := by kernel_rfl
theorem zc34 : tzc Try.prog 34 = some [.nilFunc] := by kernel_rfl
theorem sr34 : tsrc Try.prog 34 = true := by kernel_rfl
theorem sz35 : tsz Try.prog 35 = some 1 := by kernel_rfl
theorem ag35 : tag Try.prog 35 = some none := by kernel_rfl
theorem zc35 : tzc Try.prog 35 = some [.nilFunc] := by kernel_rfl
theorem sr35 : tsrc Try.prog 35 = true := by kernel_rfl
theorem sz36 : tsz Try.prog 36 = some 1 := by kernel_rfl
theorem ag36 : tag Try.prog 36 = some none := by kernel_rfl
theorem zc36 : tzc Try.prog 36 = some [.nilFunc] := by kernel_rfl
theorem sr36 : tsrc Try.prog 36 = true := by kernel_rfl
theorem sz37 : tsz Try.prog 37 = some 1 := by kernel_rfl
theorem ag37 : tag Try.prog 37 = some none := by kernel_rfl
theorem zc37 : tzc Try.prog 37 = some [.nilFunc] := by kernel_rfl
theorem sr37 : tsrc Try.prog 37 = true := by kernel_rfl
theorem sz39 : tsz Try.prog 39 = some 1 := by kernel_rfl
theorem ag39 : tag Try.prog 39 = some none := by kernel_rfl
theorem zc39 : tzc Try.prog 39 = some [.nilFunc] := by kernel_rfl
theorem sr39 : tsrc Try.prog 39 = true := by kernel_rfl
theorem sz40 : tsz Try.prog 40 = some 1 := by kernel_rfl
theorem ag40 : tag Try.prog 40 = some none := by kernel_rfl
theorem zc40 : tzc Try.prog 40 = some [.nilFunc] := by kernel_rfl
theorem sr40 : tsrc Try.prog 40 = true := by kernel_rfl
theorem sz41 : tsz Try.prog 41 = some 1 := by kernel_rfl
theorem ag41 : tag Try.prog 41 = some none := by kernel_rfl
theorem zc41 : tzc Try.prog 41 = some [.nilFunc] := by kernel_rfl
theorem sr41 : tsrc Try.prog 41 = true := by kernel_rfl
theorem sz42 : tsz Try.prog 42 = some 1 := by kernel_rfl
theorem ag42 : tag Try.prog 42 = some none := by kernel_rfl
theorem zc42 : tzc Try.prog 42 = some [(.int .u64 0)] := by kernel_rfl
theorem sr42 : tsrc Try.prog 42 = false := by kernel_rfl
theorem sz43 : tsz Try.prog 43 = some 1 := by kernel_rfl
theorem ag43 : tag Try.prog 43 = some none := by kernel_rfl
theorem zc43 : tzc Try.prog 43 = some [.nilFunc] := by kernel_rfl
theorem sr43 : tsrc Try.prog 43 = true := by kernel_rfl
theorem sz44 : tsz Try.prog 44 = some 1 := by kernel_rfl
theorem ag44 : tag Try.prog 44 = some none := by kernel_rfl
theorem zc44 : tzc Try.prog 44 = some [.nilFunc] := by kernel_rfl
theorem sr44 : tsrc Try.prog 44 = true := by kernel_rfl
theorem sz45 : tsz Try.prog 45 = some 1 := by kernel_rfl
theorem ag45 : tag Try.prog 45 = some none := by kernel_rfl
theorem zc45 : tzc Try.prog 45 = some [(.sl [] .full)] := by kernel_rfl
theorem sr45 : tsrc Try.prog 45 = true := by kernel_rfl
theorem el45 : tel Try.prog 45 = some (none, 1) := by kernel_rfl
theorem cu45 : tcut Try.prog 45 = some (some 1) := by kernel_rfl
theorem ap45 : tap Try.prog 45 = some (1, 8) := by kernel_rfl
theorem bs45 : tbs Try.prog 45 = some 1 := by kernel_rfl
theorem ae45_45 (s x : AV) (h : AH) (K : AV → AH → Prop) : aAppend Try.prog 45 45 s x h K = aAp (tap Try.prog 45) s x h K := aAppend_eq sr45 s x K
theorem ln45 : tlen Try.prog 45 = some .sl := by kernel_rfl
theorem sz46 : tsz Try.prog 46 = some 1 := by kernel_rfl
theorem ag46 : tag Try.prog 46 = some none := by kernel_rfl
theorem zc46 : tzc Try.prog 46 = some [.nilFunc] := by kernel_rfl
theorem sr46 : tsrc Try.prog 46 = true := by kernel_rfl
theorem sz47 : tsz Try.prog 47 = some 1 := by kernel_rfl
theorem ag47 : tag Try.prog 47 = some none := by kernel_rfl
theorem zc47 : tzc Try.prog 47 = some [.nilFunc] := by kernel_rfl
theorem sr47 : tsrc Try.prog 47 = true := by kernel_rfl
theorem sz48 : tsz Try.prog 48 = some 1 := by kernel_rfl
theorem ag48 : tag Try.prog 48 = some none := by kernel_rfl
theorem zc48 : tzc Try.prog 48 = some [(.sl [] .full)] := by kernel_rfl
theorem sr48 : tsrc Try.prog 48 = true := by kernel_rfl
theorem el48 : tel Try.prog 48 = some (none, 5) := by kernel_rfl
theorem cu48 : tcut Try.prog 48 = some (some 5) := by kernel_rfl
theorem ap48 : tap Try.prog 48 = some (5, 5) := by kernel_rfl
theorem bs48 : tbs Try.prog 48 = some 5 := by kernel_rfl
theorem ae48_48 (s x : AV) (h : AH) (K : AV → AH → Prop) : aAppend Try.prog 48 48 s x h K = aAp (tap Try.prog 48) s x h K := aAppend_eq sr48 s x K
theorem ln48 : tlen Try.prog 48 = some .sl := by kernel_rfl
theorem sz50 : tsz Try.prog 50 = some 1 := by kernel_rfl
theorem ag50 : tag Try.prog 50 = some none := by kernel_rfl
theorem zc50 : tzc Try.prog 50 = some [.nilFunc] := by kernel_rfl
theorem sr50 : tsrc Try.prog 50 = true := by kernel_rfl
theorem sz51 : tsz Try.prog 51 = some 5 := by kernel_rfl
theorem ag51 : tag Try.prog 51 = some (some 5) := by kernel_rfl
theorem zc51 : tzc Try.prog 51 = some [(.int .u8 0), (.int .u8 0), (.int .u8 0), (.int .u8 0), (.int .u8 0)] := by kernel_rfl
theorem sr51 : tsrc Try.prog 51 = true := by kernel_rfl
theorem fd51_0 : tfd Try.prog 51 0 = some (0, 5) := by kernel_rfl
theorem fo51_0 : tfo Try.prog 51 0 = some 0 := by kernel_rfl
theorem fd51_1 : tfd Try.prog 51 1 = some (1, 5) := by kernel_rfl
theorem fo51_1 : tfo Try.prog 51 1 = some 1 := by kernel_rfl
theorem fd51_2 : tfd Try.prog 51 2 = some (2, 5) := by kernel_rfl
theorem fo51_2 : tfo Try.prog 51 2 = some 2 := by kernel_rfl
theorem fd51_3 : tfd Try.prog 51 3 = some (3, 5) := by kernel_rfl
theorem fo51_3 : tfo Try.prog 51 3 = some 3 := by kernel_rfl
theorem fd51_4 : tfd Try.prog 51 4 = some (4, 5) := by kernel_rfl
theorem fo51_4 : tfo Try.prog 51 4 = some 4 := by kernel_rfl
theorem pl51 : tpl Try.prog 51 = some [(0, 1), (1, 1), (2, 1), (3, 1), (4, 1)] := by kernel_rfl
theorem bd51 (ps : List (Nat × AV)) (K : AV → Prop) : aBuild Try.prog 51 ps K = aBld (tpl Try.prog 51) (tzc Try.prog 51) ps K := aBuild_eq (by rw [pl51]; rfl) ps K
theorem sz52 : tsz Try.prog 52 = some 5 := by kernel_rfl
theorem ag52 : tag Try.prog 52 = some (some 5) := by kernel_rfl
theorem zc52 : tzc Try.prog 52 = some [(.int .u8 0), (.int .u8 0), (.int .u8 0), (.int .u8 0), (.int .u8 0)] := by kernel_rfl
theorem sr52 : tsrc Try.prog 52 = true := by kernel_rfl
theorem fd52_0 : tfd Try.prog 52 0 = some (0, 5) := by kernel_rfl
theorem fo52_0 : tfo Try.prog 52 0 = some 0 := by kernel_rfl
theorem fd52_1 : tfd Try.prog 52 1 = some (1, 5) := by kernel_rfl
theorem fo52_1 : tfo Try.prog 52 1 = some 1 := by kernel_rfl
theorem fd52_2 : tfd Try.prog 52 2 = some (2, 5) := by kernel_rfl
theorem fo52_2 : tfo Try.prog 52 2 = some 2 := by kernel_rfl
theorem fd52_3 : tfd Try.prog 52 3 = some (3, 5) := by kernel_rfl
theorem fo52_3 : tfo Try.prog 52 3 = some 3 := by kernel_rfl
theorem fd52_4 : tfd Try.prog 52 4 = some (4, 5) := by kernel_rfl
theorem fo52_4 : tfo Try.prog 52 4 = some 4 := by kernel_rfl
theorem pl52 : tpl Try.prog 52 = some [(0, 1), (1, 1), (2, 1), (3, 1), (4, 1)] := by kernel_rfl
theorem bd52 (ps : List (Nat × AV)) (K : AV → Prop) : aBuild Try.prog 52 ps K = aBld (tpl Try.prog 52) (tzc Try.prog 52) ps K := aBuild_eq (by rw [pl52]; rfl) ps K
theorem sz53 : tsz Try.prog 53 = some 1 := by kernel_rfl
theorem ag53 : tag Try.prog 53 = some none := by kernel_rfl
theorem zc53 : tzc Try.prog 53 = some [.nilFunc] := by kernel_rfl
theorem sr53 : tsrc Try.prog 53 = true := by kernel_rfl
theorem sz54 : tsz Try.prog 54 = some 1 := by kernel_rfl
theorem ag54 : tag Try.prog 54 = some none := by kernel_rfl
theorem zc54 : tzc Try.prog 54 = some [.nilFunc] := by kernel_rfl
theorem sr54 : tsrc Try.prog 54 = true := by kernel_rfl
theorem sz55 : tsz Try.prog 55 = some 2 := by kernel_rfl
theorem ag55 : tag Try.prog 55 = some (some 2) := by kernel_rfl
theorem zc55 : tzc Try.prog 55 = some [(.int .i64 0), (.int .i64 0)] := by kernel_rfl
theorem sr55 : tsrc Try.prog 55 = true := by kernel_rfl
theorem el55 : tel Try.prog 55 = some (some 2, 1) := by kernel_rfl
theorem ln55 : tlen Try.prog 55 = some (.arr 2) := by kernel_rfl
theorem sz56 : tsz Try.prog 56 = some 1 := by kernel_rfl
theorem ag56 : tag Try.prog 56 = some none := by kernel_rfl
theorem zc56 : tzc Try.prog 56 = some [.nilFunc] := by kernel_rfl
theorem sr56 : tsrc Try.prog 56 = true := by kernel_rfl
theorem sz57 : tsz Try.prog 57 = some 1 := by kernel_rfl
theorem ag57 : tag Try.prog 57 = some none := by kernel_rfl
theorem zc57 : tzc Try.prog 57 = some [.nilFunc] := by kernel_rfl
theorem sr57 : tsrc Try.prog 57 = true := by kernel_rfl
theorem sz58 : tsz Try.prog 58 = some 2 := by kernel_rfl
theorem ag58 : tag Try.prog 58 = some (some 2) := by kernel_rfl
theorem zc58 : tzc Try.prog 58 = some [(.int .i64 0), (.int .i64 0)] := by kernel_rfl
theorem sr58 : tsrc Try.prog 58 = true := by kernel_rfl
theorem el58 : tel Try.prog 58 = some (some 2, 1) := by kernel_rfl
theorem ln58 : tlen Try.prog 58 = some (.arr 2) := by kernel_rfl
theorem sz59 : tsz Try.prog 59 = some 1 := by kernel_rfl
theorem ag59 : tag Try.prog 59 = some none := by kernel_rfl
theorem zc59 : tzc Try.prog 59 = some [.nilFunc] := by kernel_rfl
theorem sr59 : tsrc Try.prog 59 = true := by kernel_rfl
theorem sz60 : tsz Try.prog 60 = some 1 := by kernel_rfl
theorem ag60 : tag Try.prog 60 = some none := by kernel_rfl
theorem zc60 : tzc Try.prog 60 = some [.nilFunc] := by kernel_rfl
theorem sr60 : tsrc Try.prog 60 = true := by kernel_rfl
theorem sz62 : tsz Try.prog 62 = some 1 := by kernel_rfl
theorem ag62 : tag Try.prog 62 = some none := by kernel_rfl
theorem zc62 : tzc Try.prog 62 = some [.nilFunc] := by kernel_rfl
theorem sr62 : tsrc Try.prog 62 = true := by kernel_rfl
theorem sz63 : tsz Try.prog 63 = some 1 := by kernel_rfl
theorem ag63 : tag Try.prog 63 = some none := by kernel_rfl
theorem zc63 : tzc Try.prog 63 = some [.nilFunc] := by kernel_rfl
theorem sr63 : tsrc Try.prog 63 = true := by kernel_rfl
theorem sz64 : tsz Try.prog 64 = some 1 := by kernel_rfl
theorem ag64 : tag Try.prog 64 = some none := by kernel_rfl
theorem zc64 : tzc Try.prog 64 = some [.nilFunc] := by kernel_rfl
theorem sr64 : tsrc Try.prog 64 = true := by kernel_rfl
theorem sz65 : tsz Try.prog 65 = some 1 := by kernel_rfl
theorem ag65 : tag Try.prog 65 = some none := by kernel_rfl
theorem zc65 : tzc Try.prog 65 = some [.nilFunc] := by kernel_rfl
theorem sr65 : tsrc Try.prog 65 = true := by kernel_rfl
theorem sz66 : tsz Try.prog 66 = some 1 := by kernel_rfl
theorem ag66 : tag Try.prog 66 = some none := by kernel_rfl
theorem zc66 : tzc Try.prog 66 = some [.nilFunc] := by kernel_rfl
theorem sr66 : tsrc Try.prog 66 = true := by kernel_rfl
theorem sz67 : tsz Try.prog 67 = some 1 := by kernel_rfl
theorem ag67 : tag Try.prog 67 = some none := by kernel_rfl
theorem zc67 : tzc Try.prog 67 = some [.nilFunc] := by kernel_rfl
theorem sr67 : tsrc Try.prog 67 = true := by kernel_rfl
theorem sz68 : tsz Try.prog 68 = some 1 := by kernel_rfl
theorem ag68 : tag Try.prog 68 = some none := by kernel_rfl
theorem zc68 : tzc Try.prog 68 = some [.nilFunc] := by kernel_rfl
theorem sr68 : tsrc Try.prog 68 = true := by kernel_rfl
theorem sz69 : tsz Try.prog 69 = some 1 := by kernel_rfl
theorem ag69 : tag Try.prog 69 = some none := by kernel_rfl
theorem zc69 : tzc Try.prog 69 = some [.nilFunc] := by kernel_rfl
theorem sr69 : tsrc Try.prog 69 = true := by kernel_rfl
theorem sz70 : tsz Try.prog 70 = some 1 := by kernel_rfl
theorem ag70 : tag Try.prog 70 = some none := by kernel_rfl
theorem zc70 : tzc Try.prog 70 = some [.nilFunc] := by kernel_rfl
theorem sr70 : tsrc Try.prog 70 = true := by kernel_rfl
theorem sz71 : tsz Try.prog 71 = some 1 := by kernel_rfl
theorem ag71 : tag Try.prog 71 = some none := by kernel_rfl
theorem zc71 : tzc Try.prog 71 = some [.nilFunc] := by kernel_rfl
theorem sr71 : tsrc Try.prog 71 = true := by kernel_rfl
theorem sz72 : tsz Try.prog 72 = some 1 := by kernel_rfl
theorem ag72 : tag Try.prog 72 = some none := by kernel_rfl
theorem zc72 : tzc Try.prog 72 = some [.nilFunc] := by kernel_rfl
theorem sr72 : tsrc Try.prog 72 = true := by kernel_rfl
theorem sz73 : tsz Try.prog 73 = some 1 := by kernel_rfl
theorem ag73 : tag Try.prog 73 = some none := by kernel_rfl
theorem zc73 : tzc Try.prog 73 = some [.nilFunc] := by kernel_rfl
theorem sr73 : tsrc Try.prog 73 = true := by kernel_rfl
theorem sz74 : tsz Try.prog 74 = some 1 := by kernel_rfl
theorem ag74 : tag Try.prog 74 = some none := by kernel_rfl
theorem zc74 : tzc Try.prog 74 = some [.nilFunc] := by kernel_rfl
theorem sr74 : tsrc Try.prog 74 = true := by kernel_rfl
theorem sz75 : tsz Try.prog 75 = some 1 := by kernel_rfl
theorem ag75 : tag Try.prog 75 = some none := by kernel_rfl
theorem zc75 : tzc Try.prog 75 = some [.nilFunc] := by kernel_rfl
theorem sr75 : tsrc Try.prog 75 = true := by kernel_rfl
theorem sz76 : tsz Try.prog 76 = some 4 := by kernel_rfl
theorem ag76 : tag Try.prog 76 = some (some 4) := by kernel_rfl
theorem zc76 : tzc Try.prog 76 = some [(.ptr none), (.ptr none), (.ptr none), (.str ⟨#[]⟩)] := by kernel_rfl
theorem sr76 : tsrc Try.prog 76 = true := by kernel_rfl
theorem fd76_0 : tfd Try.prog 76 0 = some (0, 17) := by kernel_rfl
theorem fo76_0 : tfo Try.prog 76 0 = some 0 := by kernel_rfl
theorem fd76_1 : tfd Try.prog 76 1 = some (1, 17) := by kernel_rfl
theorem fo76_1 : tfo Try.prog 76 1 = some 1 := by kernel_rfl
theorem fd76_2 : tfd Try.prog 76 2 = some (2, 17) := by kernel_rfl
theorem fo76_2 : tfo Try.prog 76 2 = some 2 := by kernel_rfl
theorem fd76_3 : tfd Try.prog 76 3 = some (3, 9) := by kernel_rfl
theorem fo76_3 : tfo Try.prog 76 3 = some 3 := by kernel_rfl
theorem pl76 : tpl Try.prog 76 = some [(0, 1), (1, 1), (2, 1), (3, 1)] := by kernel_rfl
theorem bd76 (ps : List (Nat × AV)) (K : AV → Prop) : aBuild Try.prog 76 ps K = aBld (tpl Try.prog 76) (tzc Try.prog 76) ps K := aBuild_eq (by rw [pl76]; rfl) ps K
theorem sz77 : tsz Try.prog 77 = some 4 := by kernel_rfl
theorem ag77 : tag Try.prog 77 = some (some 4) := by kernel_rfl
theorem zc77 : tzc Try.prog 77 = some [(.ptr none), (.ptr none), (.ptr none), (.str ⟨#[]⟩)] := by kernel_rfl
theorem sr77 : tsrc Try.prog 77 = true := by kernel_rfl
theorem fd77_0 : tfd Try.prog 77 0 = some (0, 17) := by kernel_rfl
theorem fo77_0 : tfo Try.prog 77 0 = some 0 := by kernel_rfl
theorem fd77_1 : tfd Try.prog 77 1 = some (1, 17) := by kernel_rfl
theorem fo77_1 : tfo Try.prog 77 1 = some 1 := by kernel_rfl
theorem fd77_2 : tfd Try.prog 77 2 = some (2, 17) := by kernel_rfl
theorem fo77_2 : tfo Try.prog 77 2 = some 2 := by kernel_rfl
theorem fd77_3 : tfd Try.prog 77 3 = some (3, 9) := by kernel_rfl
theorem fo77_3 : tfo Try.prog 77 3 = some 3 := by kernel_rfl
theorem pl77 : tpl Try.prog 77 = some [(0, 1), (1, 1), (2, 1), (3, 1)] := by kernel_rfl
theorem bd77 (ps : List (Nat × AV)) (K : AV → Prop) : aBuild Try.prog 77 ps K = aBld (tpl Try.prog 77) (tzc Try.prog 77) ps K := aBuild_eq (by rw [pl77]; rfl) ps K
theorem sz78 : tsz Try.prog 78 = some 0 := by kernel_rfl
theorem ag78 : tag Try.prog 78 = some (some 0) := by kernel_rfl
theorem zc78 : tzc Try.prog 78 = some [] := by kernel_rfl
theorem sr78 : tsrc Try.prog 78 = true := by kernel_rfl
theorem el78 : tel Try.prog 78 = some (some 0, 1) := by kernel_rfl
theorem ln78 : tlen Try.prog 78 = some (.arr 0) := by kernel_rfl
theorem sz79 : tsz Try.prog 79 = some 0 := by kernel_rfl
theorem ag79 : tag Try.prog 79 = some (some 0) := by kernel_rfl
theorem zc79 : tzc Try.prog 79 = some [] := by kernel_rfl
theorem sr79 : tsrc Try.prog 79 = true := by kernel_rfl
theorem fd79_0 : tfd Try.prog 79 0 = some (0, 78) := by kernel_rfl
theorem pl79 : tpl Try.prog 79 = some [(0, 0)] := by kernel_rfl
theorem bd79 (ps : List (Nat × AV)) (K : AV → Prop) : aBuild Try.prog 79 ps K = aBld (tpl Try.prog 79) (tzc Try.prog 79) ps K := aBuild_eq (by rw [pl79]; rfl) ps K
theorem sz80 : tsz Try.prog 80 = some 0 := by kernel_rfl
theorem ag80 : tag Try.prog 80 = some (some 0) := by kernel_rfl
theorem zc80 : tzc Try.prog 80 = some [] := by kernel_rfl
theorem sr80 : tsrc Try.prog 80 = true := by kernel_rfl
theorem fd80_0 : tfd Try.prog 80 0 = some (0, 78) := by kernel_rfl
theorem pl80 : tpl Try.prog 80 = some [(0, 0)] := by kernel_rfl
theorem bd80 (ps : List (Nat × AV)) (K : AV → Prop) : aBuild Try.prog 80 ps K = aBld (tpl Try.prog 80) (tzc Try.prog 80) ps K := aBuild_eq (by rw [pl80]; rfl) ps K
theorem sz81 : tsz Try.prog 81 = some 1 := by kernel_rfl
theorem ag81 : tag Try.prog 81 = some none := by kernel_rfl
theorem zc81 : tzc Try.prog 81 = some [.nilFunc] := by kernel_rfl
theorem sr81 : tsrc Try.prog 81 = true := by kernel_rfl
theorem sz82 : tsz Try.prog 82 = some 1 := by kernel_rfl
theorem ag82 : tag Try.prog 82 = some none := by kernel_rfl
theorem zc82 : tzc Try.prog 82 = some [(.int .u32 0)] := by kernel_rfl
theorem sr82 : tsrc Try.prog 82 = false := by kernel_rfl
theorem sz83 : tsz Try.prog 83 = some 1 := by kernel_rfl
theorem ag83 : tag Try.prog 83 = some none := by kernel_rfl
theorem zc83 : tzc Try.prog 83 = some [(.int .u8 0)] := by kernel_rfl
theorem sr83 : tsrc Try.prog 83 = false := by kernel_rfl
theorem sz84 : tsz Try.prog 84 = some 1 := by kernel_rfl
theorem ag84 : tag Try.prog 84 = some none := by kernel_rfl
theorem zc84 : tzc Try.prog 84 = some [(.int .u8 0)] := by kernel_rfl
theorem sr84 : tsrc Try.prog 84 = false := by kernel_rfl
theorem sz85 : tsz Try.prog 85 = some 1 := by kernel_rfl
theorem ag85 : tag Try.prog 85 = some none := by kernel_rfl
theorem zc85 : tzc Try.prog 85 = some [.nilFunc] := by kernel_rfl
theorem sr85 : tsrc Try.prog 85 = true := by kernel_rfl
theorem sz86 : tsz Try.prog 86 = some 1 := by kernel_rfl
theorem ag86 : tag Try.prog 86 = some none := by kernel_rfl
theorem zc86 : tzc Try.prog 86 = some [(.ptr none)] := by kernel_rfl
theorem sr86 : tsrc Try.prog 86 = true := by kernel_rfl
theorem sz87 : tsz Try.prog 87 = some 1 := by kernel_rfl
theorem ag87 : tag Try.prog 87 = some none := by kernel_rfl
theorem zc87 : tzc Try.prog 87 = some [(.int .i32 0)] := by kernel_rfl
theorem sr87 : tsrc Try.prog 87 = false := by kernel_rfl
theorem sz88 : tsz Try.prog 88 = some 1 := by kernel_rfl
theorem ag88 : tag Try.prog 88 = some none := by kernel_rfl
theorem zc88 : tzc Try.prog 88 = some [(.int .i32 0)] := by kernel_rfl
theorem sr88 : tsrc Try.prog 88 = false := by kernel_rfl
theorem sz89 : tsz Try.prog 89 = some 11 := by kernel_rfl
theorem ag89 : tag Try.prog 89 = some (some 11) := by kernel_rfl
theorem zc89 : tzc Try.prog 89 = some [(.int .u64 0), (.int .u64 0), (.int .u32 0), (.int .u8 0), (.int .u8 0), (.int .u8 0), (.int .u8 0), .nilFunc, (.ptr none), (.int .i32 0), (.int .i32 0)] := by kernel_rfl
theorem sr89 : tsrc Try.prog 89 = true := by kernel_rfl
theorem fd89_0 : tfd Try.prog 89 0 = some (0, 12) := by kernel_rfl
theorem fo89_0 : tfo Try.prog 89 0 = some 0 := by kernel_rfl
theorem fd89_1 : tfd Try.prog 89 1 = some (1, 12) := by kernel_rfl
theorem fo89_1 : tfo Try.prog 89 1 = some 1 := by kernel_rfl
theorem fd89_2 : tfd Try.prog 89 2 = some (2, 82) := by kernel_rfl
theorem fo89_2 : tfo Try.prog 89 2 = some 2 := by kernel_rfl
theorem fd89_3 : tfd Try.prog 89 3 = some (3, 83) := by kernel_rfl
theorem fo89_3 : tfo Try.prog 89 3 = some 3 := by kernel_rfl
theorem fd89_4 : tfd Try.prog 89 4 = some (4, 5) := by kernel_rfl
theorem fo89_4 : tfo Try.prog 89 4 = some 4 := by kernel_rfl
theorem fd89_5 : tfd Try.prog 89 5 = some (5, 5) := by kernel_rfl
theorem fo89_5 : tfo Try.prog 89 5 = some 5 := by kernel_rfl
theorem fd89_6 : tfd Try.prog 89 6 = some (6, 84) := by kernel_rfl
theorem fo89_6 : tfo Try.prog 89 6 = some 6 := by kernel_rfl
theorem fd89_7 : tfd Try.prog 89 7 = some (7, 85) := by kernel_rfl
theorem fo89_7 : tfo Try.prog 89 7 = some 7 := by kernel_rfl
theorem fd89_8 : tfd Try.prog 89 8 = some (8, 86) := by kernel_rfl
theorem fo89_8 : tfo Try.prog 89 8 = some 8 := by kernel_rfl
theorem fd89_9 : tfd Try.prog 89 9 = some (9, 87) := by kernel_rfl
theorem fo89_9 : tfo Try.prog 89 9 = some 9 := by kernel_rfl
theorem fd89_10 : tfd Try.prog 89 10 = some (10, 88) := by kernel_rfl
theorem fo89_10 : tfo Try.prog 89 10 = some 10 := by kernel_rfl
theorem pl89 : tpl Try.prog 89 = some [(0, 1), (1, 1), (2, 1), (3, 1), (4, 1), (5, 1), (6, 1), (7, 1), (8, 1), (9, 1), (10, 1)] := by kernel_rfl
theorem bd89 (ps : List (Nat × AV)) (K : AV → Prop) : aBuild Try.prog 89 ps K = aBld (tpl Try.prog 89) (tzc Try.prog 89) ps K := aBuild_eq (by rw [pl89]; rfl) ps K
theorem sz90 : tsz Try.prog 90 = some 11 := by kernel_rfl
theorem ag90 : tag Try.prog 90 = some (some 11) := by kernel_rfl
theorem zc90 : tzc Try.prog 90 = some [(.int .u64 0), (.int .u64 0), (.int .u32 0), (.int .u8 0), (.int .u8 0), (.int .u8 0), (.int .u8 0), .nilFunc, (.ptr none), (.int .i32 0), (.int .i32 0)] := by kernel_rfl
theorem sr90 : tsrc Try.prog 90 = true := by kernel_rfl
theorem fd90_0 : tfd Try.prog 90 0 = some (0, 12) := by kernel_rfl
theorem fo90_0 : tfo Try.prog 90 0 = some 0 := by kernel_rfl
theorem fd90_1 : tfd Try.prog 90 1 = some (1, 12) := by kernel_rfl
theorem fo90_1 : tfo Try.prog 90 1 = some 1 := by kernel_rfl
theorem fd90_2 : tfd Try.prog 90 2 = some (2, 82) := by kernel_rfl
theorem fo90_2 : tfo Try.prog 90 2 = some 2 := by kernel_rfl
theorem fd90_3 : tfd Try.prog 90 3 = some (3, 83) := by kernel_rfl
theorem fo90_3 : tfo Try.prog 90 3 = some 3 := by kernel_rfl
theorem fd90_4 : tfd Try.prog 90 4 = some (4, 5) := by kernel_rfl
theorem fo90_4 : tfo Try.prog 90 4 = some 4 := by kernel_rfl
theorem fd90_5 : tfd Try.prog 90 5 = some (5, 5) := by kernel_rfl
theorem fo90_5 : tfo Try.prog 90 5 = some 5 := by kernel_rfl
theorem fd90_6 : tfd Try.prog 90 6 = some (6, 84) := by kernel_rfl
theorem fo90_6 : tfo Try.prog 90 6 = some 6 := by kernel_rfl
theorem fd90_7 : tfd Try.prog 90 7 = some (7, 85) := by kernel_rfl
theorem fo90_7 : tfo Try.prog 90 7 = some 7 := by kernel_rfl
theorem fd90_8 : tfd Try.prog 90 8 = some (8, 86) := by kernel_rfl
theorem fo90_8 : tfo Try.prog 90 8 = some 8 := by kernel_rfl
theorem fd90_9 : tfd Try.prog 90 9 = some (9, 87) := by kernel_rfl
theorem fo90_9 : tfo Try.prog 90 9 = some 9 := by kernel_rfl
theorem fd90_10 : tfd Try.prog 90 10 = some (10, 88) := by kernel_rfl
theorem fo90_10 : tfo Try.prog 90 10 = some 10 := by kernel_rfl
theorem pl90 : tpl Try.prog 90 = some [(0, 1), (1, 1), (2, 1), (3, 1), (4, 1), (5, 1), (6, 1), (7, 1), (8, 1), (9, 1), (10, 1)] := by kernel_rfl
theorem bd90 (ps : List (Nat × AV)) (K : AV → Prop) : aBuild Try.prog 90 ps K = aBld (tpl Try.prog 90) (tzc Try.prog 90) ps K := aBuild_eq (by rw [pl90]; rfl) ps K
theorem sz91 : tsz Try.prog 91 = some 1 := by kernel_rfl
theorem ag91 : tag Try.prog 91 = some none := by kernel_rfl
theorem zc91 : tzc Try.prog 91 = some [(.ptr none)] := by kernel_rfl
theorem sr91 : tsrc Try.prog 91 = true := by kernel_rfl
theorem ar55 : tarr Try.prog 55 = some (2, 1) := by kernel_rfl
theorem ba55 (ps : List (Nat × AV)) (K : AV → Prop) : aBuild Try.prog 55 ps K = aBldA (tarr Try.prog 55) (tzc Try.prog 55) ps K := aBuildA_eq (by rw [ar55]; rfl) ps K
theorem eq55 : teq Try.prog 55 = some (.i64, 2) := by kernel_rfl
theorem ar58 : tarr Try.prog 58 = some (2, 1) := by kernel_rfl
theorem ba58 (ps : List (Nat × AV)) (K : AV → Prop) : aBuild Try.prog 58 ps K = aBldA (tarr Try.prog 58) (tzc Try.prog 58) ps K := aBuildA_eq (by rw [ar58]; rfl) ps K
theorem eq58 : teq Try.prog 58 = some (.i64, 2) := by kernel_rfl
theorem ar78 : tarr Try.prog 78 = some (0, 1) := by kernel_rfl
theorem ba78 (ps : List (Nat × AV)) (K : AV → Prop) : aBuild Try.prog 78 ps K = aBldA (tarr Try.prog 78) (tzc Try.prog 78) ps K := aBuildA_eq (by rw [ar78]; rfl) ps K
theorem bs26_9 : tb2s Try.prog 26 9 = true := by kernel_rfl
theorem bs26_10 : tb2s Try.prog 26 10 = true := by kernel_rfl
theorem bs26_11 : tb2s Try.prog 26 11 = true := by kernel_rfl
theorem cv2_2 : tcv Try.prog 2 2 = some (some .i64) := by kernel_rfl
theorem cv2_3 : tcv Try.prog 2 3 = some (some .i64) := by kernel_rfl
theorem cv2_5 : tcv Try.prog 2 5 = some (some .u8) := by kernel_rfl
theorem cv2_6 : tcv Try.prog 2 6 = some (some .u8) := by kernel_rfl
theorem cv2_12 : tcv Try.prog 2 12 = some (some .u64) := by kernel_rfl
theorem cv2_21 : tcv Try.prog 2 21 = some (some .i32) := by kernel_rfl
theorem cv2_31 : tcv Try.prog 2 31 = some (some .i64) := by kernel_rfl
theorem cv2_42 : tcv Try.prog 2 42 = some (some .u64) := by kernel_rfl
theorem cv2_82 : tcv Try.prog 2 82 = some (some .u32) := by kernel_rfl
theorem cv2_83 : tcv Try.prog 2 83 = some (some .u8) := by kernel_rfl
theorem cv2_84 : tcv Try.prog 2 84 = some (some .u8) := by kernel_rfl
theorem cv2_87 : tcv Try.prog 2 87 = some (some .i32) := by kernel_rfl
theorem cv2_88 : tcv Try.prog 2 88 = some (some .i32) := by kernel_rfl
theorem cv3_2 : tcv Try.prog 3 2 = some (some .i64) := by kernel_rfl
theorem cv3_3 : tcv Try.prog 3 3 = some (some .i64) := by kernel_rfl
theorem cv3_5 : tcv Try.prog 3 5 = some (some .u8) := by kernel_rfl
theorem cv3_6 : tcv Try.prog 3 6 = some (some .u8) := by kernel_rfl
theorem cv3_12 : tcv Try.prog 3 12 = some (some .u64) := by kernel_rfl
theorem cv3_21 : tcv Try.prog 3 21 = some (some .i32) := by kernel_rfl
theorem cv3_31 : tcv Try.prog 3 31 = some (some .i64) := by kernel_rfl
theorem cv3_42 : tcv Try.prog 3 42 = some (some .u64) := by kernel_rfl
theorem cv3_82 : tcv Try.prog 3 82 = some (some .u32) := by kernel_rfl
theorem cv3_83 : tcv Try.prog 3 83 = some (some .u8) := by kernel_rfl
theorem cv3_84 : tcv Try.prog 3 84 = some (some .u8) := by kernel_rfl
theorem cv3_87 : tcv Try.prog 3 87 = some (some .i32) := by kernel_rfl
theorem cv3_88 : tcv Try.prog 3 88 = some (some .i32) := by kernel_rfl
theorem cv5_2 : tcv Try.prog 5 2 = some (some .i64) := by kernel_rfl
theorem cv5_3 : tcv Try.prog 5 3 = some (some .i64) := by kernel_rfl
theorem cv5_5 : tcv Try.prog 5 5 = some (some .u8) := by kernel_rfl
theorem cv5_6 : tcv Try.prog 5 6 = some (some .u8) := by kernel_rfl
theorem cv5_12 : tcv Try.prog 5 12 = some (some .u64) := by kernel_rfl
theorem cv5_21 : tcv Try.prog 5 21 = some (some .i32) := by kernel_rfl
theorem cv5_31 : tcv Try.prog 5 31 = some (some .i64) := by kernel_rfl
theorem cv5_42 : tcv Try.prog 5 42 = some (some .u64) := by kernel_rfl
theorem cv5_82 : tcv Try.prog 5 82 = some (some .u32) := by kernel_rfl
theorem cv5_83 : tcv Try.prog 5 83 = some (some .u8) := by kernel_rfl
theorem cv5_84 : tcv Try.prog 5 84 = some (some .u8) := by kernel_rfl
theorem cv5_87 : tcv Try.prog 5 87 = some (some .i32) := by kernel_rfl
theorem cv5_88 : tcv Try.prog 5 88 = some (some .i32) := by kernel_rfl
theorem cv6_2 : tcv Try.prog 6 2 = some (some .i64) := by kernel_rfl
theorem cv6_3 : tcv Try.prog 6 3 = some (some .i64) := by kernel_rfl
theorem cv6_5 : tcv Try.prog 6 5 = some (some .u8) := by kernel_rfl
theorem cv6_6 : tcv Try.prog 6 6 = some (some .u8) := by kernel_rfl
theorem cv6_12 : tcv Try.prog 6 12 = some (some .u64) := by kernel_rfl
theorem cv6_21 : tcv Try.prog 6 21 = some (some .i32) := by kernel_rfl
theorem cv6_31 : tcv Try.prog 6 31 = some (some .i64) := by kernel_rfl
theorem cv6_42 : tcv Try.prog 6 42 = some (some .u64) := by kernel_rfl
theorem cv6_82 : tcv Try.prog 6 82 = some (some .u32) := by kernel_rfl
theorem cv6_83 : tcv Try.prog 6 83 = some (some .u8) := by kernel_rfl
theorem cv6_84 : tcv Try.prog 6 84 = some (some .u8) := by kernel_rfl
theorem cv6_87 : tcv Try.prog 6 87 = some (some .i32) := by kernel_rfl
theorem cv6_88 : tcv Try.prog 6 88 = some (some .i32) := by kernel_rfl
theorem cv9_9 : tcv Try.prog 9 9 = some none := by kernel_rfl
theorem cv9_10 : tcv Try.prog 9 10 = some none := by kernel_rfl
theorem cv9_11 : tcv Try.prog 9 11 = some none := by kernel_rfl
theorem cv10_9 : tcv Try.prog 10 9 = some none := by kernel_rfl
theorem cv10_10 : tcv Try.prog 10 10 = some none := by kernel_rfl
theorem cv10_11 : tcv Try.prog 10 11 = some none := by kernel_rfl
theorem cv11_9 : tcv Try.prog 11 9 = some none := by kernel_rfl
theorem cv11_10 : tcv Try.prog 11 10 = some none := by kernel_rfl
theorem cv11_11 : tcv Try.prog 11 11 = some none := by kernel_rfl
theorem cv12_2 : tcv Try.prog 12 2 = some (some .i64) := by kernel_rfl
theorem cv12_3 : tcv Try.prog 12 3 = some (some .i64) := by kernel_rfl
theorem cv12_5 : tcv Try.prog 12 5 = some (some .u8) := by kernel_rfl
theorem cv12_6 : tcv Try.prog 12 6 = some (some .u8) := by kernel_rfl
theorem cv12_12 : tcv Try.prog 12 12 = some (some .u64) := by kernel_rfl
theorem cv12_21 : tcv Try.prog 12 21 = some (some .i32) := by kernel_rfl
theorem cv12_31 : tcv Try.prog 12 31 = some (some .i64) := by kernel_rfl
theorem cv12_42 : tcv Try.prog 12 42 = some (some .u64) := by kernel_rfl
theorem cv12_82 : tcv Try.prog 12 82 = some (some .u32) := by kernel_rfl
theorem cv12_83 : tcv Try.prog 12 83 = some (some .u8) := by kernel_rfl
theorem cv12_84 : tcv Try.prog 12 84 = some (some .u8) := by kernel_rfl
theorem cv12_87 : tcv Try.prog 12 87 = some (some .i32) := by kernel_rfl
theorem cv12_88 : tcv Try.prog 12 88 = some (some .i32) := by kernel_rfl
theorem cv21_2 : tcv Try.prog 21 2 = some (some .i64) := by kernel_rfl
theorem cv21_3 : tcv Try.prog 21 3 = some (some .i64) := by kernel_rfl
theorem cv21_5 : tcv Try.prog 21 5 = some (some .u8) := by kernel_rfl
theorem cv21_6 : tcv Try.prog 21 6 = some (some .u8) := by kernel_rfl
theorem cv21_12 : tcv Try.prog 21 12 = some (some .u64) := by kernel_rfl
theorem cv21_21 : tcv Try.prog 21 21 = some (some .i32) := by kernel_rfl
theorem cv21_31 : tcv Try.prog 21 31 = some (some .i64) := by kernel_rfl
theorem cv21_42 : tcv Try.prog 21 42 = some (some .u64) := by kernel_rfl
theorem cv21_82 : tcv Try.prog 21 82 = some (some .u32) := by kernel_rfl
theorem cv21_83 : tcv Try.prog 21 83 = some (some .u8) := by kernel_rfl
theorem cv21_84 : tcv Try.prog 21 84 = some (some .u8) := by kernel_rfl
theorem cv21_87 : tcv Try.prog 21 87 = some (some .i32) := by kernel_rfl
theorem cv21_88 : tcv Try.prog 21 88 = some (some .i32) := by kernel_rfl
theorem cv31_2 : tcv Try.prog 31 2 = some (some .i64) := by kernel_rfl
theorem cv31_3 : tcv Try.prog 31 3 = some (some .i64) := by kernel_rfl
theorem cv31_5 : tcv Try.prog 31 5 = some (some .u8) := by kernel_rfl
theorem cv31_6 : tcv Try.prog 31 6 = some (some .u8) := by kernel_rfl
theorem cv31_12 : tcv Try.prog 31 12 = some (some .u64) := by kernel_rfl
theorem cv31_21 : tcv Try.prog 31 21 = some (some .i32) := by kernel_rfl
theorem cv31_31 : tcv Try.prog 31 31 = some (some .i64) := by kernel_rfl
theorem cv31_42 : tcv Try.prog 31 42 = some (some .u64) := by kernel_rfl
theorem cv31_82 : tcv Try.prog 31 82 = some (some .u32) := by kernel_rfl
theorem cv31_83 : tcv Try.prog 31 83 = some (some .u8) := by kernel_rfl
theorem cv31_84 : tcv Try.prog 31 84 = some (some .u8) := by kernel_rfl
theorem cv31_87 : tcv Try.prog 31 87 = some (some .i32) := by kernel_rfl
theorem cv31_88 : tcv Try.prog 31 88 = some (some .i32) := by kernel_rfl
theorem cv42_2 : tcv Try.prog 42 2 = some (some .i64) := by kernel_rfl
theorem cv42_3 : tcv Try.prog 42 3 = some (some .i64) := by kernel_rfl
theorem cv42_5 : tcv Try.prog 42 5 = some (some .u8) := by kernel_rfl
theorem cv42_6 : tcv Try.prog 42 6 = some (some .u8) := by kernel_rfl
theorem cv42_12 : tcv Try.prog 42 12 = some (some .u64) := by kernel_rfl
theorem cv42_21 : tcv Try.prog 42 21 = some (some .i32) := by kernel_rfl
theorem cv42_31 : tcv Try.prog 42 31 = some (some .i64) := by kernel_rfl
theorem cv42_42 : tcv Try.prog 42 42 = some (some .u64) := by kernel_rfl
theorem cv42_82 : tcv Try.prog 42 82 = some (some .u32) := by kernel_rfl
theorem cv42_83 : tcv Try.prog 42 83 = some (some .u8) := by kernel_rfl
theorem cv42_84 : tcv Try.prog 42 84 = some (some .u8) := by kernel_rfl
theorem cv42_87 : tcv Try.prog 42 87 = some (some .i32) := by kernel_rfl
theorem cv42_88 : tcv Try.prog 42 88 = some (some .i32) := by kernel_rfl
theorem cv82_2 : tcv Try.prog 82 2 = some (some .i64) := by kernel_rfl
theorem cv82_3 : tcv Try.prog 82 3 = some (some .i64) := by kernel_rfl
theorem cv82_5 : tcv Try.prog 82 5 = some (some .u8) := by kernel_rfl
theorem cv82_6 : tcv Try.prog 82 6 = some (some .u8) := by kernel_rfl
theorem cv82_12 : tcv Try.prog 82 12 = some (some .u64) := by kernel_rfl
theorem cv82_21 : tcv Try.prog 82 21 = some (some .i32) := by kernel_rfl
theorem cv82_31 : tcv Try.prog 82 31 = some (some .i64) := by kernel_rfl
theorem cv82_42 : tcv Try.prog 82 42 = some (some .u64) := by kernel_rfl
theorem cv82_82 : tcv Try.prog 82 82 = some (some .u32) := by kernel_rfl
theorem cv82_83 : tcv Try.prog 82 83 = some (some .u8) := by kernel_rfl
theorem cv82_84 : tcv Try.prog 82 84 = some (some .u8) := by kernel_rfl
theorem cv82_87 : tcv Try.prog 82 87 = some (some .i32) := by kernel_rfl
theorem cv82_88 : tcv Try.prog 82 88 = some (some .i32) := by kernel_rfl
theorem cv83_2 : tcv Try.prog 83 2 = some (some .i64) := by kernel_rfl
theorem cv83_3 : tcv Try.prog 83 3 = some (some .i64) := by kernel_rfl
theorem cv83_5 : tcv Try.prog 83 5 = some (some .u8) := by kernel_rfl
theorem cv83_6 : tcv Try.prog 83 6 = some (some .u8) := by kernel_rfl
theorem cv83_12 : tcv Try.prog 83 12 = some (some .u64) := by kernel_rfl
theorem cv83_21 : tcv Try.prog 83 21 = some (some .i32) := by kernel_rfl
theorem cv83_31 : tcv Try.prog 83 31 = some (some .i64) := by kernel_rfl
theorem cv83_42 : tcv Try.prog 83 42 = some (some .u64) := by kernel_rfl
theorem cv83_82 : tcv Try.prog 83 82 = some (some .u32) := by kernel_rfl
theorem cv83_83 : tcv Try.prog 83 83 = some (some .u8) := by kernel_rfl
theorem cv83_84 : tcv Try.prog 83 84 = some (some .u8) := by kernel_rfl
theorem cv83_87 : tcv Try.prog 83 87 = some (some .i32) := by kernel_rfl
theorem cv83_88 : tcv Try.prog 83 88 = some (some .i32) := by kernel_rfl
theorem cv84_2 : tcv Try.prog 84 2 = some (some .i64) := by kernel_rfl
theorem cv84_3 : tcv Try.prog 84 3 = some (some .i64) := by kernel_rfl
theorem cv84_5 : tcv Try.prog 84 5 = some (some .u8) := by kernel_rfl
theorem cv84_6 : tcv Try.prog 84 6 = some (some .u8) := by kernel_rfl
theorem cv84_12 : tcv Try.prog 84 12 = some (some .u64) := by kernel_rfl
theorem cv84_21 : tcv Try.prog 84 21 = some (some .i32) := by kernel_rfl
theorem cv84_31 : tcv Try.prog 84 31 = some (some .i64) := by kernel_rfl
theorem cv84_42 : tcv Try.prog 84 42 = some (some .u64) := by kernel_rfl
theorem cv84_82 : tcv Try.prog 84 82 = some (some .u32) := by kernel_rfl
theorem cv84_83 : tcv Try.prog 84 83 = some (some .u8) := by kernel_rfl
theorem cv84_84 : tcv Try.prog 84 84 = some (some .u8) := by kernel_rfl
theorem cv84_87 : tcv Try.prog 84 87 = some (some .i32) := by kernel_rfl
theorem cv84_88 : tcv Try.prog 84 88 = some (some .i32) := by kernel_rfl
theorem cv87_2 : tcv Try.prog 87 2 = some (some .i64) := by kernel_rfl
theorem cv87_3 : tcv Try.prog 87 3 = some (some .i64) := by kernel_rfl
theorem cv87_5 : tcv Try.prog 87 5 = some (some .u8) := by kernel_rfl
theorem cv87_6 : tcv Try.prog 87 6 = some (some .u8) := by kernel_rfl
theorem cv87_12 : tcv Try.prog 87 12 = some (some .u64) := by kernel_rfl
theorem cv87_21 : tcv Try.prog 87 21 = some (some .i32) := by kernel_rfl
theorem cv87_31 : tcv Try.prog 87 31 = some (some .i64) := by kernel_rfl
theorem cv87_42 : tcv Try.prog 87 42 = some (some .u64) := by kernel_rfl
theorem cv87_82 : tcv Try.prog 87 82 = some (some .u32) := by kernel_rfl
theorem cv87_83 : tcv Try.prog 87 83 = some (some .u8) := by kernel_rfl
theorem cv87_84 : tcv Try.prog 87 84 = some (some .u8) := by kernel_rfl
theorem cv87_87 : tcv Try.prog 87 87 = some (some .i32) := by kernel_rfl
theorem cv87_88 : tcv Try.prog 87 88 = some (some .i32) := by kernel_rfl
theorem cv88_2 : tcv Try.prog 88 2 = some (some .i64) := by kernel_rfl
theorem cv88_3 : tcv Try.prog 88 3 = some (some .i64) := by kernel_rfl
theorem cv88_5 : tcv Try.prog 88 5 = some (some .u8) := by kernel_rfl
theorem cv88_6 : tcv Try.prog 88 6 = some (some .u8) := by kernel_rfl
theorem cv88_12 : tcv Try.prog 88 12 = some (some .u64) := by kernel_rfl
theorem cv88_21 : tcv Try.prog 88 21 = some (some .i32) := by kernel_rfl
theorem cv88_31 : tcv Try.prog 88 31 = some (some .i64) := by kernel_rfl
theorem cv88_42 : tcv Try.prog 88 42 = some (some .u64) := by kernel_rfl
theorem cv88_82 : tcv Try.prog 88 82 = some (some .u32) := by kernel_rfl
theorem cv88_83 : tcv Try.prog 88 83 = some (some .u8) := by kernel_rfl
theorem cv88_84 : tcv Try.prog 88 84 = some (some .u8) := by kernel_rfl
theorem cv88_87 : tcv Try.prog 88 87 = some (some .i32) := by kernel_rfl
theorem cv88_88 : tcv Try.prog 88 88 = some (some .i32) := by kernel_rfl
attribute [go_sem] sz1 ag1 zc1 sr1 sz2 ag2 zc2 sr2 sz3 ag3 zc3 sr3 sz4 ag4 zc4 sr4 bo4 sz5 ag5 zc5 sr5 sz6 ag6 zc6 sr6 sz7 ag7 zc7 sr7 fd7_0 fo7_0 fd7_1 fo7_1 fd7_2 fo7_2 fd7_3 fo7_3 pl7 bd7 sz8 ag8 zc8 sr8 fd8_0 fo8_0 fd8_1 fo8_1 fd8_2 fo8_2 fd8_3 fo8_3 pl8 bd8 sz9 ag9 zc9 sr9 cu9 ln9 sz10 ag10 zc10 sr10 cu10 ln10 sz11 ag11 zc11 sr11 cu11 ln11 sz12 ag12 zc12 sr12 sz13 ag13 zc13 sr13 fd13_0 fo13_0 fd13_1 fo13_1 pl13 bd13 sz14 ag14 zc14 sr14 fd14_0 fo14_0 fd14_1 fo14_1 pl14 bd14 sz15 ag15 zc15 sr15 sz16 ag16 zc16 sr16 sz17 ag17 zc17 sr17 sz18 ag18 zc18 sr18 fd18_0 fo18_0 pl18 bd18 sz19 ag19 zc19 sr19 fd19_0 fo19_0 pl19 bd19 sz20 ag20 zc20 sr20 sz21 ag21 zc21 sr21 sz22 ag22 zc22 sr22 el22 cu22 ap22 bs22 ae22_22 ln22 sz23 ag23 zc23 sr23 el23 cu23 ap23 bs23 ae23_23 ln23 sz24 ag24 zc24 sr24 fd24_0 fo24_0 fd24_1 fo24_1 pl24 bd24 sz25 ag25 zc25 sr25 fd25_0 fo25_0 fd25_1 fo25_1 pl25 bd25 sz26 ag26 zc26 sr26 el26 cu26 ap26 bs26 ae26_26 ln26 sz27 ag27 zc27 sr27 fd27_0 fo27_0 fd27_1 fo27_1 fd27_2 fo27_2 pl27 bd27 sz28 ag28 zc28 sr28 fd28_0 fo28_0 fd28_1 fo28_1 fd28_2 fo28_2 pl28 bd28 sz29 ag29 zc29 sr29 sz30 ag30 zc30 sr30 sz31 ag31 zc31 sr31 sz33 ag33 zc33 sr33 sz34 ag34 zc34 sr34 sz35 ag35 zc35 sr35 sz36 ag36 zc36 sr36 sz37 ag37 zc37 sr37 sz39 ag39 zc39 sr39 sz40 ag40 zc40 sr40 sz41 ag41 zc41 sr41 sz42 ag42 zc42 sr42 sz43 ag43 zc43 sr43 sz44 ag44 zc44 sr44 sz45 ag45 zc45 sr45 el45 cu45 ap45 bs45 ae45_45 ln45 sz46 ag46 zc46 sr46 sz47 ag47 zc47 sr47 sz48 ag48 zc48 sr48 el48 cu48 ap48 bs48 ae48_48 ln48 sz50 ag50 zc50 sr50 sz51 ag51 zc51 sr51 fd51_0 fo51_0 fd51_1 fo51_1 fd51_2 fo51_2 fd51_3 fo51_3 fd51_4 fo51_4 pl51 bd51 sz52 ag52 zc52 sr52 fd52_0 fo52_0 fd52_1 fo52_1 fd52_2 fo52_2 fd52_3 fo52_3 fd52_4 fo52_4 pl52 bd52 sz53 ag53 zc53 sr53 sz54 ag54 zc54 sr54 sz55 ag55 zc55 sr55 el55 ln55 sz56 ag56 zc56 sr56 sz57 ag57 zc57 sr57 sz58 ag58 zc58 sr58 el58 ln58 sz59 ag59 zc59 sr59 sz60 ag60 zc60 sr60 sz62 ag62 zc62 sr62 sz63 ag63 zc63 sr63 sz64 ag64 zc64 sr64 sz65 ag65 zc65 sr65 sz66 ag66 zc66 sr66 sz67 ag67 zc67 sr67 sz68 ag68 zc68 sr68 sz69 ag69 zc69 sr69 sz70 ag70 zc70 sr70 sz71 ag71 zc71 sr71 sz72 ag72 zc72 sr72 sz73 ag73 zc73 sr73 sz74 ag74 zc74 sr74 sz75 ag75 zc75 sr75 sz76 ag76 zc76 sr76 fd76_0 fo76_0 fd76_1 fo76_1 fd76_2 fo76_2 fd76_3 fo76_3 pl76 bd76 sz77 ag77 zc77 sr77 fd77_0 fo77_0 fd77_1 fo77_1 fd77_2 fo77_2 fd77_3 fo77_3 pl77 bd77 sz78 ag78 zc78 sr78 el78 ln78 sz79 ag79 zc79 sr79 fd79_0 pl79 bd79 sz80 ag80 zc80 sr80 fd80_0 pl80 bd80 sz81 ag81 zc81 sr81 sz82 ag82 zc82 sr82 sz83 ag83 zc83 sr83 sz84 ag84 zc84 sr84 sz85 ag85 zc85 sr85 sz86 ag86 zc86 sr86 sz87 ag87 zc87 sr87 sz88 ag88 zc88 sr88 sz89 ag89 zc89 sr89 fd89_0 fo89_0 fd89_1 fo89_1 fd89_2 fo89_2 fd89_3 fo89_3 fd89_4 fo89_4 fd89_5 fo89_5 fd89_6 fo89_6 fd89_7 fo89_7 fd89_8 fo89_8 fd89_9 fo89_9 fd89_10 fo89_10 pl89 bd89 sz90 ag90 zc90 sr90 fd90_0 fo90_0 fd90_1 fo90_1 fd90_2 fo90_2 fd90_3 fo90_3 fd90_4 fo90_4 fd90_5 fo90_5 fd90_6 fo90_6 fd90_7 fo90_7 fd90_8 fo90_8 fd90_9 fo90_9 fd90_10 fo90_10 pl90 bd90 sz91 ag91 zc91 sr91 ar55 ba55 eq55 ar58 ba58 eq58 ar78 ba78 bs26_9 bs26_10 bs26_11 cv2_2 cv2_3 cv2_5 cv2_6 cv2_12 cv2_21 cv2_31 cv2_42 cv2_82 cv2_83 cv2_84 cv2_87 cv2_88 cv3_2 cv3_3 cv3_5 cv3_6 cv3_12 cv3_21 cv3_31 cv3_42 cv3_82 cv3_83 cv3_84 cv3_87 cv3_88 cv5_2 cv5_3 cv5_5 cv5_6 cv5_12 cv5_21 cv5_31 cv5_42 cv5_82 cv5_83 cv5_84 cv5_87 cv5_88 cv6_2 cv6_3 cv6_5 cv6_6 cv6_12 cv6_21 cv6_31 cv6_42 cv6_82 cv6_83 cv6_84 cv6_87 cv6_88 cv9_9 cv9_10 cv9_11 cv10_9 cv10_10 cv10_11 cv11_9 cv11_10 cv11_11 cv12_2 cv12_3 cv12_5 cv12_6 cv12_12 cv12_21 cv12_31 cv12_42 cv12_82 cv12_83 cv12_84 cv12_87 cv12_88 cv21_2 cv21_3 cv21_5 cv21_6 cv21_12 cv21_21 cv21_31 cv21_42 cv21_82 cv21_83 cv21_84 cv21_87 cv21_88 cv31_2 cv31_3 cv31_5 cv31_6 cv31_12 cv31_21 cv31_31 cv31_42 cv31_82 cv31_83 cv31_84 cv31_87 cv31_88 cv42_2 cv42_3 cv42_5 cv42_6 cv42_12 cv42_21 cv42_31 cv42_42 cv42_82 cv42_83 cv42_84 cv42_87 cv42_88 cv82_2 cv82_3 cv82_5 cv82_6 cv82_12 cv82_21 cv82_31 cv82_42 cv82_82 cv82_83 cv82_84 cv82_87 cv82_88 cv83_2 cv83_3 cv83_5 cv83_6 cv83_12 cv83_21 cv83_31 cv83_42 cv83_82 cv83_83 cv83_84 cv83_87 cv83_88 cv84_2 cv84_3 cv84_5 cv84_6 cv84_12 cv84_21 cv84_31 cv84_42 cv84_82 cv84_83 cv84_84 cv84_87 cv84_88 cv87_2 cv87_3 cv87_5 cv87_6 cv87_12 cv87_21 cv87_31 cv87_42 cv87_82 cv87_83 cv87_84 cv87_87 cv87_88 cv88_2 cv88_3 cv88_5 cv88_6 cv88_12 cv88_21 cv88_31 cv88_42 cv88_82 cv88_83 cv88_84 cv88_87 cv88_88
end Go.Proofs.Ytidmpembkkkhkaa.Ty
