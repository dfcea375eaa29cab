/- The closed facts on the types of this translation: cells, zero values, places of fields, elements. By program; no conditions. -/
import Derived.Test.YtkcpnmphlanocaaProg
import Derived.Test.YtkcpnmphlanocaaAbsN
import Derived.KernelRfl
namespace Go.Proofs.Ytkcpnmphlanocaa.Ty
open Go Go.Proofs Go.Abs
theorem mixed : Try.prog.follows .mixedOrders = true := by kernel_rfl
theorem sz1 : tsz Try.prog 1 = some 1 := by kernel_rfl
theorem ag1 : tag Try.prog 1 = some none := by kernel_rfl
theorem zc1 : tzc Try.prog 1 = some [.nilFunc] := by kernel_rfl
theorem sr1 : tsrc Try.prog 1 = true := by kernel_rfl
theorem sz2 : tsz Try.prog 2 = some 1 := by kernel_rfl
theorem ag2 : tag Try.prog 2 = some none := by kernel_rfl
theorem zc2 : tzc Try.prog 2 = some [(.int .i64 0)] := by kernel_rfl
theorem sr2 : tsrc Try.prog 2 = false := by kernel_rfl
theorem sz3 : tsz Try.prog 3 = some 1 := by kernel_rfl
theorem ag3 : tag Try.prog 3 = some none := by kernel_rfl
theorem zc3 : tzc Try.prog 3 = some [(.int .i64 0)] := by kernel_rfl
theorem sr3 : tsrc Try.prog 3 = false := by kernel_rfl
theorem sz4 : tsz Try.prog 4 = some 1 := by kernel_rfl
theorem ag4 : tag Try.prog 4 = some none := by kernel_rfl
theorem zc4 : tzc Try.prog 4 = some [(.bool false)] := by kernel_rfl
theorem sr4 : tsrc Try.prog 4 = true := by kernel_rfl
theorem bo4 : tbool Try.prog 4 = true := by kernel_rfl
theorem sz5 : tsz Try.prog 5 = some 1 := by kernel_rfl
theorem ag5 : tag Try.prog 5 = some none := by kernel_rfl
theorem zc5 : tzc Try.prog 5 = some [(.int .u8 0)] := by kernel_rfl
theorem sr5 : tsrc Try.prog 5 = false := by kernel_rfl
theorem sz6 : tsz Try.prog 6 = some 1 := by kernel_rfl
theorem ag6 : tag Try.prog 6 = some none := by kernel_rfl
theorem zc6 : tzc Try.prog 6 = some [(.int .u8 0)] := by kernel_rfl
theorem sr6 : tsrc Try.prog 6 = false := by kernel_rfl
theorem sz7 : tsz Try.prog 7 = some 4 := by kernel_rfl
theorem ag7 : tag Try.prog 7 = some (some 4) := by kernel_rfl
theorem zc7 : tzc Try.prog 7 = some [(.int .i64 0), (.int .i64 0), (.bool false), (.int .u8 0)] := by kernel_rfl
theorem sr7 : tsrc Try.prog 7 = true := by kernel_rfl
theorem fd7_0 : tfd Try.prog 7 0 = some (0, 2) := by kernel_rfl
theorem fo7_0 : tfo Try.prog 7 0 = some 0 := by kernel_rfl
theorem fd7_1 : tfd Try.prog 7 1 = some (1, 3) := by kernel_rfl
theorem fo7_1 : tfo Try.prog 7 1 = some 1 := by kernel_rfl
theorem fd7_2 : tfd Try.prog 7 2 = some (2, 4) := by kernel_rfl
theorem fo7_2 : tfo Try.prog 7 2 = some 2 := by kernel_rfl
theorem fd7_3 : tfd Try.prog 7 3 = some (3, 6) := by kernel_rfl
theorem fo7_3 : tfo Try.prog 7 3 = some 3 := by kernel_rfl
theorem pl7 : tpl Try.prog 7 = some [(0, 1), (1, 1), (2, 1), (3, 1)] := by kernel_rfl
theorem bd7 (ps : List (Nat × AV)) (K : AV → Prop) : aBuild Try.prog 7 ps K = aBld (tpl Try.prog 7) (tzc Try.prog 7) ps K := aBuild_eq (by rw [pl7]; rfl) ps K
theorem sz8 : tsz Try.prog 8 = some 4 := by kernel_rfl
theorem ag8 : tag Try.prog 8 = some (some 4) := by kernel_rfl
theorem zc8 : tzc Try.prog 8 = some [(.int .i64 0), (.int .i64 0), (.bool false), (.int .u8 0)] := by kernel_rfl
theorem sr8 : tsrc Try.prog 8 = true := by kernel_rfl
theorem fd8_0 : tfd Try.prog 8 0 = some (0, 2) := by kernel_rfl
theorem fo8_0 : tfo Try.prog 8 0 = some 0 := by kernel_rfl
theorem fd8_1 : tfd Try.prog 8 1 = some (1, 3) := by kernel_rfl
theorem fo8_1 : tfo Try.prog 8 1 = some 1 := by kernel_rfl
theorem fd8_2 : tfd Try.prog 8 2 = some (2, 4) := by kernel_rfl
theorem fo8_2 : tfo Try.prog 8 2 = some 2 := by kernel_rfl
theorem fd8_3 : tfd Try.prog 8 3 = some (3, 6) := by kernel_rfl
theorem fo8_3 : tfo Try.prog 8 3 = some 3 := by kernel_rfl
theorem pl8 : tpl Try.prog 8 = some [(0, 1), (1, 1), (2, 1), (3, 1)] := by kernel_rfl
theorem bd8 (ps : List (Nat × AV)) (K : AV → Prop) : aBuild Try.prog 8 ps K = aBld (tpl Try.prog 8) (tzc Try.prog 8) ps K := aBuild_eq (by rw [pl8]; rfl) ps K
theorem sz9 : tsz Try.prog 9 = some 1 := by kernel_rfl
theorem ag9 : tag Try.prog 9 = some none := by kernel_rfl
theorem zc9 : tzc Try.prog 9 = some [(.str ⟨#[]⟩)] := by kernel_rfl
theorem sr9 : tsrc Try.prog 9 = true := by kernel_rfl
theorem cu9 : tcut Try.prog 9 = some none := by kernel_rfl
theorem ln9 : tlen Try.prog 9 = some .str := by kernel_rfl
theorem sz10 : tsz Try.prog 10 = some 1 := by kernel_rfl
theorem ag10 : tag Try.prog 10 = some none := by kernel_rfl
theorem zc10 : tzc Try.prog 10 = some [(.str ⟨#[]⟩)] := by kernel_rfl
theorem sr10 : tsrc Try.prog 10 = true := by kernel_rfl
theorem cu10 : tcut Try.prog 10 = some none := by kernel_rfl
theorem ln10 : tlen Try.prog 10 = some .str := by kernel_rfl
theorem sz11 : tsz Try.prog 11 = some 1 := by kernel_rfl
theorem ag11 : tag Try.prog 11 = some none := by kernel_rfl
theorem zc11 : tzc Try.prog 11 = some [(.str ⟨#[]⟩)] := by kernel_rfl
theorem sr11 : tsrc Try.prog 11 = true := by kernel_rfl
theorem cu11 : tcut Try.prog 11 = some none := by kernel_rfl
theorem ln11 : tlen Try.prog 11 = some .str := by kernel_rfl
theorem sz12 : tsz Try.prog 12 = some 1 := by kernel_rfl
theorem ag12 : tag Try.prog 12 = some none := by kernel_rfl
theorem zc12 : tzc Try.prog 12 = some [(.int .u64 0)] := by kernel_rfl
theorem sr12 : tsrc Try.prog 12 = false := by kernel_rfl
theorem sz13 : tsz Try.prog 13 = some 2 := by kernel_rfl
theorem ag13 : tag Try.prog 13 = some (some 2) := by kernel_rfl
theorem zc13 : tzc Try.prog 13 = some [(.str ⟨#[]⟩), (.int .u64 0)] := by kernel_rfl
theorem sr13 : tsrc Try.prog 13 = true := by kernel_rfl
theorem fd13_0 : tfd Try.prog 13 0 = some (0, 9) := by kernel_rfl
theorem fo13_0 : tfo Try.prog 13 0 = some 0 := by kernel_rfl
theorem fd13_1 : tfd Try.prog 13 1 = some (1, 12) := by kernel_rfl
theorem fo13_1 : tfo Try.prog 13 1 = some 1 := by kernel_rfl
theorem pl13 : tpl Try.prog 13 = some [(0, 1), (1, 1)] := by kernel_rfl
theorem bd13 (ps : List (Nat × AV)) (K : AV → Prop) : aBuild Try.prog 13 ps K = aBld (tpl Try.prog 13) (tzc Try.prog 13) ps K := aBuild_eq (by rw [pl13]; rfl) ps K
theorem sz14 : tsz Try.prog 14 = some 2 := by kernel_rfl
theorem ag14 : tag Try.prog 14 = some (some 2) := by kernel_rfl
theorem zc14 : tzc Try.prog 14 = some [(.str ⟨#[]⟩), (.int .u64 0)] := by kernel_rfl
theorem sr14 : tsrc Try.prog 14 = true := by kernel_rfl
theorem fd14_0 : tfd Try.prog 14 0 = some (0, 9) := by kernel_rfl
theorem fo14_0 : tfo Try.prog 14 0 = some 0 := by kernel_rfl
theorem fd14_1 : tfd Try.prog 14 1 = some (1, 12) := by kernel_rfl
theorem fo14_1 : tfo Try.prog 14 1 = some 1 := by kernel_rfl
theorem pl14 : tpl Try.prog 14 = some [(0, 1), (1, 1)] := by kernel_rfl
theorem bd14 (ps : List (Nat × AV)) (K : AV → Prop) : aBuild Try.prog 14 ps K = aBld (tpl Try.prog 14) (tzc Try.prog 14) ps K := aBuild_eq (by rw [pl14]; rfl) ps K
theorem sz15 : tsz Try.prog 15 = some 1 := by kernel_rfl
theorem ag15 : tag Try.prog 15 = some none := by kernel_rfl
theorem zc15 : tzc Try.prog 15 = some [(.ptr none)] := by kernel_rfl
theorem sr15 : tsrc Try.prog 15 = true := by kernel_rfl
theorem sz16 : tsz Try.prog 16 = some 1 := by kernel_rfl
theorem ag16 : tag Try.prog 16 = some none := by kernel_rfl
theorem zc16 : tzc Try.prog 16 = some [(.ptr none)] := by kernel_rfl
theorem sr16 : tsrc Try.prog 16 = true := by kernel_rfl
theorem sz17 : tsz Try.prog 17 = some 1 := by kernel_rfl
theorem ag17 : tag Try.prog 17 = some none := by kernel_rfl
theorem zc17 : tzc Try.prog 17 = some [(.ptr none)] := by kernel_rfl
theorem sr17 : tsrc Try.prog 17 = true := by kernel_rfl
theorem sz18 : tsz Try.prog 18 = some 1 := by kernel_rfl
theorem ag18 : tag Try.prog 18 = some (some 1) := by kernel_rfl
theorem zc18 : tzc Try.prog 18 = some [(.ptr none)] := by kernel_rfl
theorem sr18 : tsrc Try.prog 18 = true := by kernel_rfl
theorem fd18_0 : tfd Try.prog 18 0 = some (0, 17) := by kernel_rfl
theorem fo18_0 : tfo Try.prog 18 0 = some 0 := by kernel_rfl
theorem pl18 : tpl Try.prog 18 = some [(0, 1)] := by kernel_rfl
theorem bd18 (ps : List (Nat × AV)) (K : AV → Prop) : aBuild Try.prog 18 ps K = aBld (tpl Try.prog 18) (tzc Try.prog 18) ps K := aBuild_eq (by rw [pl18]; rfl) ps K
theorem sz19 : tsz Try.prog 19 = some 1 := by kernel_rfl
theorem ag19 : tag Try.prog 19 = some (some 1) := by kernel_rfl
theorem zc19 : tzc Try.prog 19 = some [(.ptr none)] := by kernel_rfl
theorem sr19 : tsrc Try.prog 19 = true := by kernel_rfl
theorem fd19_0 : tfd Try.prog 19 0 = some (0, 17) := by kernel_rfl
theorem fo19_0 : tfo Try.prog 19 0 = some 0 := by kernel_rfl
theorem pl19 : tpl Try.prog 19 = some [(0, 1)] := by kernel_rfl
theorem bd19 (ps : List (Nat × AV)) (K : AV → Prop) : aBuild Try.prog 19 ps K = aBld (tpl Try.prog 19) (tzc Try.prog 19) ps K := aBuild_eq (by rw [pl19]; rfl) ps K
theorem sz20 : tsz Try.prog 20 = some 1 := by kernel_rfl
theorem ag20 : tag Try.prog 20 = some none := by kernel_rfl
theorem zc20 : tzc Try.prog 20 = some [.nilIface] := by kernel_rfl
theorem sr20 : tsrc Try.prog 20 = true := by kernel_rfl
theorem sz21 : tsz Try.prog 21 = some 1 := by kernel_rfl
theorem ag21 : tag Try.prog 21 = some none := by kernel_rfl
theorem zc21 : tzc Try.prog 21 = some [(.int .i32 0)] := by kernel_rfl
theorem sr21 : tsrc Try.prog 21 = false := by kernel_rfl
theorem sz22 : tsz Try.prog 22 = some 1 := by kernel_rfl
theorem ag22 : tag Try.prog 22 = some none := by kernel_rfl
theorem zc22 : tzc Try.prog 22 = some [(.sl [] .full)] := by kernel_rfl
theorem sr22 : tsrc Try.prog 22 = true := by kernel_rfl
theorem el22 : tel Try.prog 22 = some (none, 3) := by kernel_rfl
theorem cu22 : tcut Try.prog 22 = some (some 3) := by kernel_rfl
theorem ap22 : tap Try.prog 22 = some (3, 40) := by kernel_rfl
theorem bs22 : tbs Try.prog 22 = some 3 := by kernel_rfl
theorem ae22_22 (s x : AV) (h : AH) (K : AV → AH → Prop) : aAppend Try.prog 22 22 s x h K = aAp (tap Try.prog 22) s x h K := aAppend_eq sr22 s x K
theorem ln22 : tlen Try.prog 22 = some .sl := by kernel_rfl
theorem sz23 : tsz Try.prog 23 = some 3 := by kernel_rfl
theorem ag23 : tag Try.prog 23 = some (some 3) := by kernel_rfl
theorem zc23 : tzc Try.prog 23 = some [(.int .i64 0), (.int .i64 0), (.sl [] .full)] := by kernel_rfl
theorem sr23 : tsrc Try.prog 23 = true := by kernel_rfl
theorem fd23_0 : tfd Try.prog 23 0 = some (0, 3) := by kernel_rfl
theorem fo23_0 : tfo Try.prog 23 0 = some 0 := by kernel_rfl
theorem fd23_1 : tfd Try.prog 23 1 = some (1, 3) := by kernel_rfl
theorem fo23_1 : tfo Try.prog 23 1 = some 1 := by kernel_rfl
theorem fd23_2 : tfd Try.prog 23 2 = some (2, 22) := by kernel_rfl
theorem fo23_2 : tfo Try.prog 23 2 = some 2 := by kernel_rfl
theorem pl23 : tpl Try.prog 23 = some [(0, 1), (1, 1), (2, 1)] := by kernel_rfl
theorem bd23 (ps : List (Nat × AV)) (K : AV → Prop) : aBuild Try.prog 23 ps K = aBld (tpl Try.prog 23) (tzc Try.prog 23) ps K := aBuild_eq (by rw [pl23]; rfl) ps K
theorem sz24 : tsz Try.prog 24 = some 3 := by kernel_rfl
theorem ag24 : tag Try.prog 24 = some (some 3) := by kernel_rfl
theorem zc24 : tzc Try.prog 24 = some [(.int .i64 0), (.int .i64 0), (.sl [] .full)] := by kernel_rfl
theorem sr24 : tsrc Try.prog 24 = true := by kernel_rfl
theorem fd24_0 : tfd Try.prog 24 0 = some (0, 3) := by kernel_rfl
theorem fo24_0 : tfo Try.prog 24 0 = some 0 := by kernel_rfl
theorem fd24_1 : tfd Try.prog 24 1 = some (1, 3) := by kernel_rfl
theorem fo24_1 : tfo Try.prog 24 1 = some 1 := by kernel_rfl
theorem fd24_2 : tfd Try.prog 24 2 = some (2, 22) := by kernel_rfl
theorem fo24_2 : tfo Try.prog 24 2 = some 2 := by kernel_rfl
theorem pl24 : tpl Try.prog 24 = some [(0, 1), (1, 1), (2, 1)] := by kernel_rfl
theorem bd24 (ps : List (Nat × AV)) (K : AV → Prop) : aBuild Try.prog 24 ps K = aBld (tpl Try.prog 24) (tzc Try.prog 24) ps K := aBuild_eq (by rw [pl24]; rfl) ps K
theorem sz25 : tsz Try.prog 25 = some 1 := by kernel_rfl
theorem ag25 : tag Try.prog 25 = some none := by kernel_rfl
theorem zc25 : tzc Try.prog 25 = some [(.int .u64 0)] := by kernel_rfl
theorem sr25 : tsrc Try.prog 25 = false := by kernel_rfl
theorem sz26 : tsz Try.prog 26 = some 1 := by kernel_rfl
theorem ag26 : tag Try.prog 26 = some none := by kernel_rfl
theorem zc26 : tzc Try.prog 26 = some [.nilFunc] := by kernel_rfl
theorem sr26 : tsrc Try.prog 26 = true := by kernel_rfl
theorem sz27 : tsz Try.prog 27 = some 1 := by kernel_rfl
theorem ag27 : tag Try.prog 27 = some none := by kernel_rfl
theorem zc27 : tzc Try.prog 27 = some [.nilFunc] := by kernel_rfl
theorem sr27 : tsrc Try.prog 27 = true := by kernel_rfl
theorem sz28 : tsz Try.prog 28 = some 1 := by kernel_rfl
theorem ag28 : tag Try.prog 28 = some none := by kernel_rfl
theorem zc28 : tzc Try.prog 28 = some [(.int .i64 0)] := by kernel_rfl
theorem sr28 : tsrc Try.prog 28 = false := by kernel_rfl
theorem sz30 : tsz Try.prog 30 = some 1 := by kernel_rfl
theorem ag30 : tag Try.prog 30 = some none := by kernel_rfl
theorem zc30 : tzc Try.prog 30 = some [.nilFunc] := by kernel_rfl
theorem sr30 : tsrc Try.prog 30 = true := by kernel_rfl
theorem sz31 : tsz Try.prog 31 = some 1 := by kernel_rfl
theorem ag31 : tag Try.prog 31 = some none := by kernel_rfl
theorem zc31 : tzc Try.prog 31 = some [(.sl [] .full)] := by kernel_rfl
theorem sr31 : tsrc Try.prog 31 = true := by kernel_rfl
theorem el31 : tel Try.prog 31 = some (none, 1) := by kernel_rfl
theorem cu31 : tcut Try.prog 31 = some (some 1) := by kernel_rfl
theorem ap31 : tap Try.prog 31 = some (1, 8) := by kernel_rfl
theorem bs31 : tbs Try.prog 31 = some 1 := by kernel_rfl
theorem ae31_31 (s x : AV) (h : AH) (K : AV → AH → Prop) : aAppend Try.prog 31 31 s x h K = aAp (tap Try.prog 31) s x h K := aAppend_eq sr31 s x K
theorem ln31 : tlen Try.prog 31 = some .sl := by kernel_rfl
theorem sz32 : tsz Try.prog 32 = some 1 := by kernel_rfl
theorem ag32 : tag Try.prog 32 = some none := by kernel_rfl
theorem zc32 : tzc Try.prog 32 = some [.nilFunc] := by kernel_rfl
theorem sr32 : tsrc Try.prog 32 = true := by kernel_rfl
theorem sz33 : tsz Try.prog 33 = some 1 := by kernel_rfl
theorem ag33 : tag Try.prog 33 = some none := by kernel_rfl
theorem zc33 : tzc Try.prog 33 = some [.nilFunc] := by kernel_rfl
theorem sr33 : tsrc Try.prog 33 = true := by kernel_rfl
theorem sz34 : tsz Try.prog 34 = some 1 := by kernel_rfl
theorem ag34 : tag Try.prog 34 = some none := by kernel_rfl
theorem zc34 : tzc Try.prog 34 = some [.nilFunc] := by kernel_rfl
theorem sr34 : tsrc Try.prog 34 = true := by kernel_rfl
theorem sz36 : tsz Try.prog 36 = some 1 := by kernel_rfl
theorem ag36 : tag Try.prog 36 = some none := by kernel_rfl
theorem zc36 : tzc Try.prog 36 = some [.nilFunc] := by kernel_rfl
theorem sr36 : tsrc Try.prog 36 = true := by kernel_rfl
theorem sz37 : tsz Try.prog 37 = some 1 := by kernel_rfl
theorem ag37 : tag Try.prog 37 = some none := by kernel_rfl
theorem zc37 : tzc Try.prog 37 = some [.nilFunc] := by kernel_rfl
theorem sr37 : tsrc Try.prog 37 = true := by kernel_rfl
theorem sz38 : tsz Try.prog 38 = some 1 := by kernel_rfl
theorem ag38 : tag Try.prog 38 = some none := by kernel_rfl
theorem zc38 : tzc Try.prog 38 = some [.nilFunc] := by kernel_rfl
theorem sr38 : tsrc Try.prog 38 = true := by kernel_rfl
theorem sz39 : tsz Try.prog 39 = some 1 := by kernel_rfl
theorem ag39 : tag Try.prog 39 = some none := by kernel_rfl
theorem zc39 : tzc Try.prog 39 = some [.nilFunc] := by kernel_rfl
theorem sr39 : tsrc Try.prog 39 = true := by kernel_rfl
theorem sz40 : tsz Try.prog 40 = some 1 := by kernel_rfl
theorem ag40 : tag Try.prog 40 = some none := by kernel_rfl
theorem zc40 : tzc Try.prog 40 = some [.nilFunc] := by kernel_rfl
theorem sr40 : tsrc Try.prog 40 = true := by kernel_rfl
theorem sz41 : tsz Try.prog 41 = some 1 := by kernel_rfl
theorem ag41 : tag Try.prog 41 = some none := by kernel_rfl
theorem zc41 : tzc Try.prog 41 = some [.nilFunc] := by kernel_rfl
theorem sr41 : tsrc Try.prog 41 = true := by kernel_rfl
theorem sz42 : tsz Try.prog 42 = some 1 := by kernel_rfl
theorem ag42 : tag Try.prog 42 = some none := by kernel_rfl
theorem zc42 : tzc Try.prog 42 = some [.nilFunc] := by kernel_rfl
theorem sr42 : tsrc Try.prog 42 = true := by kernel_rfl
theorem sz43 : tsz Try.prog 43 = some 1 := by kernel_rfl
theorem ag43 : tag Try.prog 43 = some none := by kernel_rfl
theorem zc43 : tzc Try.prog 43 = some [.nilFunc] := by kernel_rfl
theorem sr43 : tsrc Try.prog 43 = true := by kernel_rfl
theorem sz44 : tsz Try.prog 44 = some 1 := by kernel_rfl
theorem ag44 : tag Try.prog 44 = some none := by kernel_rfl
theorem zc44 : tzc Try.prog 44 = some [(.map none)] := by kernel_rfl
theorem sr44 : tsrc Try.prog 44 = true := by kernel_rfl
theorem ln44 : tlen Try.prog 44 = some .map := by kernel_rfl
theorem mk44 : tmk Try.prog 44 = some (true, (.int .i64 0)) := by kernel_rfl
theorem sz45 : tsz Try.prog 45 = some 1 := by kernel_rfl
theorem ag45 : tag Try.prog 45 = some none := by kernel_rfl
theorem zc45 : tzc Try.prog 45 = some [.nilFunc] := by kernel_rfl
theorem sr45 : tsrc Try.prog 45 = true := by kernel_rfl
theorem sz46 : tsz Try.prog 46 = some 1 := by kernel_rfl
theorem ag46 : tag Try.prog 46 = some none := by kernel_rfl
theorem zc46 : tzc Try.prog 46 = some [.nilFunc] := by kernel_rfl
theorem sr46 : tsrc Try.prog 46 = true := by kernel_rfl
theorem sz47 : tsz Try.prog 47 = some 1 := by kernel_rfl
theorem ag47 : tag Try.prog 47 = some none := by kernel_rfl
theorem zc47 : tzc Try.prog 47 = some [.nilFunc] := by kernel_rfl
theorem sr47 : tsrc Try.prog 47 = true := by kernel_rfl
theorem sz48 : tsz Try.prog 48 = some 1 := by kernel_rfl
theorem ag48 : tag Try.prog 48 = some none := by kernel_rfl
theorem zc48 : tzc Try.prog 48 = some [.nilFunc] := by kernel_rfl
theorem sr48 : tsrc Try.prog 48 = true := by kernel_rfl
theorem sz49 : tsz Try.prog 49 = some 1 := by kernel_rfl
theorem ag49 : tag Try.prog 49 = some none := by kernel_rfl
theorem zc49 : tzc Try.prog 49 = some [.nilFunc] := by kernel_rfl
theorem sr49 : tsrc Try.prog 49 = true := by kernel_rfl
theorem sz50 : tsz Try.prog 50 = some 1 := by kernel_rfl
theorem ag50 : tag Try.prog 50 = some none := by kernel_rfl
theorem zc50 : tzc Try.prog 50 = some [.nilFunc] := by kernel_rfl
theorem sr50 : tsrc Try.prog 50 = true := by kernel_rfl
theorem sz51 : tsz Try.prog 51 = some 1 := by kernel_rfl
theorem ag51 : tag Try.prog 51 = some none := by kernel_rfl
theorem zc51 : tzc Try.prog 51 = some [.nilFunc] := by kernel_rfl
theorem sr51 : tsrc Try.prog 51 = true := by kernel_rfl
theorem sz52 : tsz Try.prog 52 = some 1 := by kernel_rfl
theorem ag52 : tag Try.prog 52 = some none := by kernel_rfl
theorem zc52 : tzc Try.prog 52 = some [.nilFunc] := by kernel_rfl
theorem sr52 : tsrc Try.prog 52 = true := by kernel_rfl
theorem sz53 : tsz Try.prog 53 = some 4 := by kernel_rfl
theorem ag53 : tag Try.prog 53 = some (some 4) := by kernel_rfl
theorem zc53 : tzc Try.prog 53 = some [(.ptr none), (.ptr none), (.ptr none), (.str ⟨#[]⟩)] := by kernel_rfl
theorem sr53 : tsrc Try.prog 53 = true := by kernel_rfl
theorem fd53_0 : tfd Try.prog 53 0 = some (0, 17) := by kernel_rfl
theorem fo53_0 : tfo Try.prog 53 0 = some 0 := by kernel_rfl
theorem fd53_1 : tfd Try.prog 53 1 = some (1, 17) := by kernel_rfl
theorem fo53_1 : tfo Try.prog 53 1 = some 1 := by kernel_rfl
theorem fd53_2 : tfd Try.prog 53 2 = some (2, 17) := by kernel_rfl
theorem fo53_2 : tfo Try.prog 53 2 = some 2 := by kernel_rfl
theorem fd53_3 : tfd Try.prog 53 3 = some (3, 9) := by kernel_rfl
theorem fo53_3 : tfo Try.prog 53 3 = some 3 := by kernel_rfl
theorem pl53 : tpl Try.prog 53 = some [(0, 1), (1, 1), (2, 1), (3, 1)] := by kernel_rfl
theorem bd53 (ps : List (Nat × AV)) (K : AV → Prop) : aBuild Try.prog 53 ps K = aBld (tpl Try.prog 53) (tzc Try.prog 53) ps K := aBuild_eq (by rw [pl53]; rfl) ps K
theorem sz54 : tsz Try.prog 54 = some 4 := by kernel_rfl
theorem ag54 : tag Try.prog 54 = some (some 4) := by kernel_rfl
theorem zc54 : tzc Try.prog 54 = some [(.ptr none), (.ptr none), (.ptr none), (.str ⟨#[]⟩)] := by kernel_rfl
theorem sr54 : tsrc Try.prog 54 = true := by kernel_rfl
theorem fd54_0 : tfd Try.prog 54 0 = some (0, 17) := by kernel_rfl
theorem fo54_0 : tfo Try.prog 54 0 = some 0 := by kernel_rfl
theorem fd54_1 : tfd Try.prog 54 1 = some (1, 17) := by kernel_rfl
theorem fo54_1 : tfo Try.prog 54 1 = some 1 := by kernel_rfl
theorem fd54_2 : tfd Try.prog 54 2 = some (2, 17) := by kernel_rfl
theorem fo54_2 : tfo Try.prog 54 2 = some 2 := by kernel_rfl
theorem fd54_3 : tfd Try.prog 54 3 = some (3, 9) := by kernel_rfl
theorem fo54_3 : tfo Try.prog 54 3 = some 3 := by kernel_rfl
theorem pl54 : tpl Try.prog 54 = some [(0, 1), (1, 1), (2, 1), (3, 1)] := by kernel_rfl
theorem bd54 (ps : List (Nat × AV)) (K : AV → Prop) : aBuild Try.prog 54 ps K = aBld (tpl Try.prog 54) (tzc Try.prog 54) ps K := aBuild_eq (by rw [pl54]; rfl) ps K
theorem sz55 : tsz Try.prog 55 = some 0 := by kernel_rfl
theorem ag55 : tag Try.prog 55 = some (some 0) := by kernel_rfl
theorem zc55 : tzc Try.prog 55 = some [] := by kernel_rfl
theorem sr55 : tsrc Try.prog 55 = true := by kernel_rfl
theorem el55 : tel Try.prog 55 = some (some 0, 1) := by kernel_rfl
theorem ln55 : tlen Try.prog 55 = some (.arr 0) := by kernel_rfl
theorem sz56 : tsz Try.prog 56 = some 0 := by kernel_rfl
theorem ag56 : tag Try.prog 56 = some (some 0) := by kernel_rfl
theorem zc56 : tzc Try.prog 56 = some [] := by kernel_rfl
theorem sr56 : tsrc Try.prog 56 = true := by kernel_rfl
theorem fd56_0 : tfd Try.prog 56 0 = some (0, 55) := by kernel_rfl
theorem pl56 : tpl Try.prog 56 = some [(0, 0)] := by kernel_rfl
theorem bd56 (ps : List (Nat × AV)) (K : AV → Prop) : aBuild Try.prog 56 ps K = aBld (tpl Try.prog 56) (tzc Try.prog 56) ps K := aBuild_eq (by rw [pl56]; rfl) ps K
theorem sz57 : tsz Try.prog 57 = some 0 := by kernel_rfl
theorem ag57 : tag Try.prog 57 = some (some 0) := by kernel_rfl
theorem zc57 : tzc Try.prog 57 = some [] := by kernel_rfl
theorem sr57 : tsrc Try.prog 57 = true := by kernel_rfl
theorem fd57_0 : tfd Try.prog 57 0 = some (0, 55) := by kernel_rfl
theorem pl57 : tpl Try.prog 57 = some [(0, 0)] := by kernel_rfl
theorem bd57 (ps : List (Nat × AV)) (K : AV → Prop) : aBuild Try.prog 57 ps K = aBld (tpl Try.prog 57) (tzc Try.prog 57) ps K := aBuild_eq (by rw [pl57]; rfl) ps K
theorem sz58 : tsz Try.prog 58 = some 1 := by kernel_rfl
theorem ag58 : tag Try.prog 58 = some none := by kernel_rfl
theorem zc58 : tzc Try.prog 58 = some [.nilFunc] := by kernel_rfl
theorem sr58 : tsrc Try.prog 58 = true := by kernel_rfl
theorem sz59 : tsz Try.prog 59 = some 1 := by kernel_rfl
theorem ag59 : tag Try.prog 59 = some none := by kernel_rfl
theorem zc59 : tzc Try.prog 59 = some [(.int .u32 0)] := by kernel_rfl
theorem sr59 : tsrc Try.prog 59 = false := by kernel_rfl
theorem sz60 : tsz Try.prog 60 = some 1 := by kernel_rfl
theorem ag60 : tag Try.prog 60 = some none := by kernel_rfl
theorem zc60 : tzc Try.prog 60 = some [(.int .u8 0)] := by kernel_rfl
theorem sr60 : tsrc Try.prog 60 = false := by kernel_rfl
theorem sz61 : tsz Try.prog 61 = some 1 := by kernel_rfl
theorem ag61 : tag Try.prog 61 = some none := by kernel_rfl
theorem zc61 : tzc Try.prog 61 = some [(.int .u8 0)] := by kernel_rfl
theorem sr61 : tsrc Try.prog 61 = false := by kernel_rfl
theorem sz62 : tsz Try.prog 62 = some 1 := by kernel_rfl
theorem ag62 : tag Try.prog 62 = some none := by kernel_rfl
theorem zc62 : tzc Try.prog 62 = some [.nilFunc] := by kernel_rfl
theorem sr62 : tsrc Try.prog 62 = true := by kernel_rfl
theorem sz63 : tsz Try.prog 63 = some 1 := by kernel_rfl
theorem ag63 : tag Try.prog 63 = some none := by kernel_rfl
theorem zc63 : tzc Try.prog 63 = some [(.ptr none)] := by kernel_rfl
theorem sr63 : tsrc Try.prog 63 = true := by kernel_rfl
theorem sz64 : tsz Try.prog 64 = some 1 := by kernel_rfl
theorem ag64 : tag Try.prog 64 = some none := by kernel_rfl
theorem zc64 : tzc Try.prog 64 = some [(.int .i32 0)] := by kernel_rfl
theorem sr64 : tsrc Try.prog 64 = false := by kernel_rfl
theorem sz65 : tsz Try.prog 65 = some 1 := by kernel_rfl
theorem ag65 : tag Try.prog 65 = some none := by kernel_rfl
theorem zc65 : tzc Try.prog 65 = some [(.int .i32 0)] := by kernel_rfl
theorem sr65 : tsrc Try.prog 65 = false := by kernel_rfl
theorem sz66 : tsz Try.prog 66 = some 11 := by kernel_rfl
theorem ag66 : tag Try.prog 66 = some (some 11) := by kernel_rfl
theorem zc66 : tzc Try.prog 66 = some [(.int .u64 0), (.int .u64 0), (.int .u32 0), (.int .u8 0), (.int .u8 0), (.int .u8 0), (.int .u8 0), .nilFunc, (.ptr none), (.int .i32 0), (.int .i32 0)] := by kernel_rfl
theorem sr66 : tsrc Try.prog 66 = true := by kernel_rfl
theorem fd66_0 : tfd Try.prog 66 0 = some (0, 12) := by kernel_rfl
theorem fo66_0 : tfo Try.prog 66 0 = some 0 := by kernel_rfl
theorem fd66_1 : tfd Try.prog 66 1 = some (1, 12) := by kernel_rfl
theorem fo66_1 : tfo Try.prog 66 1 = some 1 := by kernel_rfl
theorem fd66_2 : tfd Try.prog 66 2 = some (2, 59) := by kernel_rfl
theorem fo66_2 : tfo Try.prog 66 2 = some 2 := by kernel_rfl
theorem fd66_3 : tfd Try.prog 66 3 = some (3, 60) := by kernel_rfl
theorem fo66_3 : tfo Try.prog 66 3 = some 3 := by kernel_rfl
theorem fd66_4 : tfd Try.prog 66 4 = some (4, 5) := by kernel_rfl
theorem fo66_4 : tfo Try.prog 66 4 = some 4 := by kernel_rfl
theorem fd66_5 : tfd Try.prog 66 5 = some (5, 5) := by kernel_rfl
theorem fo66_5 : tfo Try.prog 66 5 = some 5 := by kernel_rfl
theorem fd66_6 : tfd Try.prog 66 6 = some (6, 61) := by kernel_rfl
theorem fo66_6 : tfo Try.prog 66 6 = some 6 := by kernel_rfl
theorem fd66_7 : tfd Try.prog 66 7 = some (7, 62) := by kernel_rfl
theorem fo66_7 : tfo Try.prog 66 7 = some 7 := by kernel_rfl
theorem fd66_8 : tfd Try.prog 66 8 = some (8, 63) := by kernel_rfl
theorem fo66_8 : tfo Try.prog 66 8 = some 8 := by kernel_rfl
theorem fd66_9 : tfd Try.prog 66 9 = some (9, 64) := by kernel_rfl
theorem fo66_9 : tfo Try.prog 66 9 = some 9 := by kernel_rfl
theorem fd66_10 : tfd Try.prog 66 10 = some (10, 65) := by kernel_rfl
theorem fo66_10 : tfo Try.prog 66 10 = some 10 := by kernel_rfl
theorem pl66 : tpl Try.prog 66 = some [(0, 1), (1, 1), (2, 1), (3, 1), (4, 1), (5, 1), (6, 1), (7, 1), (8, 1), (9, 1), (10, 1)] := by kernel_rfl
theorem bd66 (ps : List (Nat × AV)) (K : AV → Prop) : aBuild Try.prog 66 ps K = aBld (tpl Try.prog 66) (tzc Try.prog 66) ps K := aBuild_eq (by rw [pl66]; rfl) ps K
theorem sz67 : tsz Try.prog 67 = some 11 := by kernel_rfl
theorem ag67 : tag Try.prog 67 = some (some 11) := by kernel_rfl
theorem zc67 : tzc Try.prog 67 = some [(.int .u64 0), (.int .u64 0), (.int .u32 0), (.int .u8 0), (.int .u8 0), (.int .u8 0), (.int .u8 0), .nilFunc, (.ptr none), (.int .i32 0), (.int .i32 0)] := by kernel_rfl
theorem sr67 : tsrc Try.prog 67 = true := by kernel_rfl
theorem fd67_0 : tfd Try.prog 67 0 = some (0, 12) := by kernel_rfl
theorem fo67_0 : tfo Try.prog 67 0 = some 0 := by kernel_rfl
theorem fd67_1 : tfd Try.prog 67 1 = some (1, 12) := by kernel_rfl
theorem fo67_1 : tfo Try.prog 67 1 = some 1 := by kernel_rfl
theorem fd67_2 : tfd Try.prog 67 2 = some (2, 59) := by kernel_rfl
theorem fo67_2 : tfo Try.prog 67 2 = some 2 := by kernel_rfl
theorem fd67_3 : tfd Try.prog 67 3 = some (3, 60) := by kernel_rfl
theorem fo67_3 : tfo Try.prog 67 3 = some 3 := by kernel_rfl
theorem fd67_4 : tfd Try.prog 67 4 = some (4, 5) := by kernel_rfl
theorem fo67_4 : tfo Try.prog 67 4 = some 4 := by kernel_rfl
theorem fd67_5 : tfd Try.prog 67 5 = some (5, 5) := by kernel_rfl
theorem fo67_5 : tfo Try.prog 67 5 = some 5 := by kernel_rfl
theorem fd67_6 : tfd Try.prog 67 6 = some (6, 61) := by kernel_rfl
theorem fo67_6 : tfo Try.prog 67 6 = some 6 := by kernel_rfl
theorem fd67_7 : tfd Try.prog 67 7 = some (7, 62) := by kernel_rfl
theorem fo67_7 : tfo Try.prog 67 7 = some 7 := by kernel_rfl
theorem fd67_8 : tfd Try.prog 67 8 = some (8, 63) := by kernel_rfl
theorem fo67_8 : tfo Try.prog 67 8 = some 8 := by kernel_rfl
theorem fd67_9 : tfd Try.prog 67 9 = some (9, 64) := by kernel_rfl
theorem fo67_9 : tfo Try.prog 67 9 = some 9 := by kernel_rfl
theorem fd67_10 : tfd Try.prog 67 10 = some (10, 65) := by kernel_rfl
theorem fo67_10 : tfo Try.prog 67 10 = some 10 := by kernel_rfl
theorem pl67 : tpl Try.prog 67 = some [(0, 1), (1, 1), (2, 1), (3, 1), (4, 1), (5, 1), (6, 1), (7, 1), (8, 1), (9, 1), (10, 1)] := by kernel_rfl
theorem bd67 (ps : List (Nat × AV)) (K : AV → Prop) : aBuild Try.prog 67 ps K = aBld (tpl Try.prog 67) (tzc Try.prog 67) ps K := aBuild_eq (by rw [pl67]; rfl) ps K
theorem sz68 : tsz Try.prog 68 = some 1 := by kernel_rfl
theorem ag68 : tag Try.prog 68 = some none := by kernel_rfl
theorem zc68 : tzc Try.prog 68 = some [(.ptr none)] := by kernel_rfl
theorem sr68 : tsrc Try.prog 68 = true := by kernel_rfl
theorem mu44 : tmkey Try.prog 44 = some true := by kernel_rfl
theorem cv2_2 : tcv Try.prog 2 2 = some (some .i64) := by kernel_rfl
theorem cv2_3 : tcv Try.prog 2 3 = some (some .i64) := by kernel_rfl
theorem cv2_5 : tcv Try.prog 2 5 = some (some .u8) := by kernel_rfl
theorem cv2_6 : tcv Try.prog 2 6 = some (some .u8) := by kernel_rfl
theorem cv2_12 : tcv Try.prog 2 12 = some (some .u64) := by kernel_rfl
theorem cv2_21 : tcv Try.prog 2 21 = some (some .i32) := by kernel_rfl
theorem cv2_25 : tcv Try.prog 2 25 = some (some .u64) := by kernel_rfl
theorem cv2_28 : tcv Try.prog 2 28 = some (some .i64) := by kernel_rfl
theorem cv2_59 : tcv Try.prog 2 59 = some (some .u32) := by kernel_rfl
theorem cv2_60 : tcv Try.prog 2 60 = some (some .u8) := by kernel_rfl
theorem cv2_61 : tcv Try.prog 2 61 = some (some .u8) := by kernel_rfl
theorem cv2_64 : tcv Try.prog 2 64 = some (some .i32) := by kernel_rfl
theorem cv2_65 : tcv Try.prog 2 65 = some (some .i32) := by kernel_rfl
theorem cv3_2 : tcv Try.prog 3 2 = some (some .i64) := by kernel_rfl
theorem cv3_3 : tcv Try.prog 3 3 = some (some .i64) := by kernel_rfl
theorem cv3_5 : tcv Try.prog 3 5 = some (some .u8) := by kernel_rfl
theorem cv3_6 : tcv Try.prog 3 6 = some (some .u8) := by kernel_rfl
theorem cv3_12 : tcv Try.prog 3 12 = some (some .u64) := by kernel_rfl
theorem cv3_21 : tcv Try.prog 3 21 = some (some .i32) := by kernel_rfl
theorem cv3_25 : tcv Try.prog 3 25 = some (some .u64) := by kernel_rfl
theorem cv3_28 : tcv Try.prog 3 28 = some (some .i64) := by kernel_rfl
theorem cv3_59 : tcv Try.prog 3 59 = some (some .u32) := by kernel_rfl
theorem cv3_60 : tcv Try.prog 3 60 = some (some .u8) := by kernel_rfl
theorem cv3_61 : tcv Try.prog 3 61 = some (some .u8) := by kernel_rfl
theorem cv3_64 : tcv Try.prog 3 64 = some (some .i32) := by kernel_rfl
theorem cv3_65 : tcv Try.prog 3 65 = some (some .i32) := by kernel_rfl
theorem cv5_2 : tcv Try.prog 5 2 = some (some .i64) := by kernel_rfl
theorem cv5_3 : tcv Try.prog 5 3 = some (some .i64) := by kernel_rfl
theorem cv5_5 : tcv Try.prog 5 5 = some (some .u8) := by kernel_rfl
theorem cv5_6 : tcv Try.prog 5 6 = some (some .u8) := by kernel_rfl
theorem cv5_12 : tcv Try.prog 5 12 = some (some .u64) := by kernel_rfl
theorem cv5_21 : tcv Try.prog 5 21 = some (some .i32) := by kernel_rfl
theorem cv5_25 : tcv Try.prog 5 25 = some (some .u64) := by kernel_rfl
theorem cv5_28 : tcv Try.prog 5 28 = some (some .i64) := by kernel_rfl
theorem cv5_59 : tcv Try.prog 5 59 = some (some .u32) := by kernel_rfl
theorem cv5_60 : tcv Try.prog 5 60 = some (some .u8) := by kernel_rfl
theorem cv5_61 : tcv Try.prog 5 61 = some (some .u8) := by kernel_rfl
theorem cv5_64 : tcv Try.prog 5 64 = some (some .i32) := by kernel_rfl
theorem cv5_65 : tcv Try.prog 5 65 = some (some .i32) := by kernel_rfl
theorem cv6_2 : tcv Try.prog 6 2 = some (some .i64) := by kernel_rfl
theorem cv6_3 : tcv Try.prog 6 3 = some (some .i64) := by kernel_rfl
theorem cv6_5 : tcv Try.prog 6 5 = some (some .u8) := by kernel_rfl
theorem cv6_6 : tcv Try.prog 6 6 = some (some .u8) := by kernel_rfl
theorem cv6_12 : tcv Try.prog 6 12 = some (some .u64) := by kernel_rfl
theorem cv6_21 : tcv Try.prog 6 21 = some (some .i32) := by kernel_rfl
theorem cv6_25 : tcv Try.prog 6 25 = some (some .u64) := by kernel_rfl
theorem cv6_28 : tcv Try.prog 6 28 = some (some .i64) := by kernel_rfl
theorem cv6_59 : tcv Try.prog 6 59 = some (some .u32) := by kernel_rfl
theorem cv6_60 : tcv Try.prog 6 60 = some (some .u8) := by kernel_rfl
theorem cv6_61 : tcv Try.prog 6 61 = some (some .u8) := by kernel_rfl
theorem cv6_64 : tcv Try.prog 6 64 = some (some .i32) := by kernel_rfl
theorem cv6_65 : tcv Try.prog 6 65 = some (some .i32) := by kernel_rfl
theorem cv9_9 : tcv Try.prog 9 9 = some none := by kernel_rfl
theorem cv9_10 : tcv Try.prog 9 10 = some none := by kernel_rfl
theorem cv9_11 : tcv Try.prog 9 11 = some none := by kernel_rfl
theorem cv10_9 : tcv Try.prog 10 9 = some none := by kernel_rfl
theorem cv10_10 : tcv Try.prog 10 10 = some none := by kernel_rfl
theorem cv10_11 : tcv Try.prog 10 11 = some none := by kernel_rfl
theorem cv11_9 : tcv Try.prog 11 9 = some none := by kernel_rfl
theorem cv11_10 : tcv Try.prog 11 10 = some none := by kernel_rfl
theorem cv11_11 : tcv Try.prog 11 11 = some none := by kernel_rfl
theorem cv12_2 : tcv Try.prog 12 2 = some (some .i64) := by kernel_rfl
theorem cv12_3 : tcv Try.prog 12 3 = some (some .i64) := by kernel_rfl
theorem cv12_5 : tcv Try.prog 12 5 = some (some .u8) := by kernel_rfl
theorem cv12_6 : tcv Try.prog 12 6 = some (some .u8) := by kernel_rfl
theorem cv12_12 : tcv Try.prog 12 12 = some (some .u64) := by kernel_rfl
theorem cv12_21 : tcv Try.prog 12 21 = some (some .i32) := by kernel_rfl
theorem cv12_25 : tcv Try.prog 12 25 = some (some .u64) := by kernel_rfl
theorem cv12_28 : tcv Try.prog 12 28 = some (some .i64) := by kernel_rfl
theorem cv12_59 : tcv Try.prog 12 59 = some (some .u32) := by kernel_rfl
theorem cv12_60 : tcv Try.prog 12 60 = some (some .u8) := by kernel_rfl
theorem cv12_61 : tcv Try.prog 12 61 = some (some .u8) := by kernel_rfl
theorem cv12_64 : tcv Try.prog 12 64 = some (some .i32) := by kernel_rfl
theorem cv12_65 : tcv Try.prog 12 65 = some (some .i32) := by kernel_rfl
theorem cv21_2 : tcv Try.prog 21 2 = some (some .i64) := by kernel_rfl
theorem cv21_3 : tcv Try.prog 21 3 = some (some .i64) := by kernel_rfl
theorem cv21_5 : tcv Try.prog 21 5 = some (some .u8) := by kernel_rfl
theorem cv21_6 : tcv Try.prog 21 6 = some (some .u8) := by kernel_rfl
theorem cv21_12 : tcv Try.prog 21 12 = some (some .u64) := by kernel_rfl
theorem cv21_21 : tcv Try.prog 21 21 = some (some .i32) := by kernel_rfl
theorem cv21_25 : tcv Try.prog 21 25 = some (some .u64) := by kernel_rfl
theorem cv21_28 : tcv Try.prog 21 28 = some (some .i64) := by kernel_rfl
theorem cv21_59 : tcv Try.prog 21 59 = some (some .u32) := by kernel_rfl
theorem cv21_60 : tcv Try.prog 21 60 = some (some .u8) := by kernel_rfl
theorem cv21_61 : tcv Try.prog 21 61 = some (some .u8) := by kernel_rfl
theorem cv21_64 : tcv Try.prog 21 64 = some (some .i32) := by kernel_rfl
theorem cv21_65 : tcv Try.prog 21 65 = some (some .i32) := by kernel_rfl
theorem cv25_2 : tcv Try.prog 25 2 = some (some .i64) := by kernel_rfl
theorem cv25_3 : tcv Try.prog 25 3 = some (some .i64) := by kernel_rfl
theorem cv25_5 : tcv Try.prog 25 5 = some (some .u8) := by kernel_rfl
theorem cv25_6 : tcv Try.prog 25 6 = some (some .u8) := by kernel_rfl
theorem cv25_12 : tcv Try.prog 25 12 = some (some .u64) := by kernel_rfl
theorem cv25_21 : tcv Try.prog 25 21 = some (some .i32) := by kernel_rfl
theorem cv25_25 : tcv Try.prog 25 25 = some (some .u64) := by kernel_rfl
theorem cv25_28 : tcv Try.prog 25 28 = some (some .i64) := by kernel_rfl
theorem cv25_59 : tcv Try.prog 25 59 = some (some .u32) := by kernel_rfl
theorem cv25_60 : tcv Try.prog 25 60 = some (some .u8) := by kernel_rfl
theorem cv25_61 : tcv Try.prog 25 61 = some (some .u8) := by kernel_rfl
theorem cv25_64 : tcv Try.prog 25 64 = some (some .i32) := by kernel_rfl
theorem cv25_65 : tcv Try.prog 25 65 = some (some .i32) := by kernel_rfl
theorem cv28_2 : tcv Try.prog 28 2 = some (some .i64) := by kernel_rfl
theorem cv28_3 : tcv Try.prog 28 3 = some (some .i64) := by kernel_rfl
theorem cv28_5 : tcv Try.prog 28 5 = some (some .u8) := by kernel_rfl
theorem cv28_6 : tcv Try.prog 28 6 = some (some .u8) := by kernel_rfl
theorem cv28_12 : tcv Try.prog 28 12 = some (some .u64) := by kernel_rfl
theorem cv28_21 : tcv Try.prog 28 21 = some (some .i32) := by kernel_rfl
theorem cv28_25 : tcv Try.prog 28 25 = some (some .u64) := by kernel_rfl
theorem cv28_28 : tcv Try.prog 28 28 = some (some .i64) := by kernel_rfl
theorem cv28_59 : tcv Try.prog 28 59 = some (some .u32) := by kernel_rfl
theorem cv28_60 : tcv Try.prog 28 60 = some (some .u8) := by kernel_rfl
theorem cv28_61 : tcv Try.prog 28 61 = some (some .u8) := by kernel_rfl
theorem cv28_64 : tcv Try.prog 28 64 = some (some .i32) := by kernel_rfl
theorem cv28_65 : tcv Try.prog 28 65 = some (some .i32) := by kernel_rfl
theorem cv59_2 : tcv Try.prog 59 2 = some (some .i64) := by kernel_rfl
theorem cv59_3 : tcv Try.prog 59 3 = some (some .i64) := by kernel_rfl
theorem cv59_5 : tcv Try.prog 59 5 = some (some .u8) := by kernel_rfl
theorem cv59_6 : tcv Try.prog 59 6 = some (some .u8) := by kernel_rfl
theorem cv59_12 : tcv Try.prog 59 12 = some (some .u64) := by kernel_rfl
theorem cv59_21 : tcv Try.prog 59 21 = some (some .i32) := by kernel_rfl
theorem cv59_25 : tcv Try.prog 59 25 = some (some .u64) := by kernel_rfl
theorem cv59_28 : tcv Try.prog 59 28 = some (some .i64) := by kernel_rfl
theorem cv59_59 : tcv Try.prog 59 59 = some (some .u32) := by kernel_rfl
theorem cv59_60 : tcv Try.prog 59 60 = some (some .u8) := by kernel_rfl
theorem cv59_61 : tcv Try.prog 59 61 = some (some .u8) := by kernel_rfl
theorem cv59_64 : tcv Try.prog 59 64 = some (some .i32) := by kernel_rfl
theorem cv59_65 : tcv Try.prog 59 65 = some (some .i32) := by kernel_rfl
theorem cv60_2 : tcv Try.prog 60 2 = some (some .i64) := by kernel_rfl
theorem cv60_3 : tcv Try.prog 60 3 = some (some .i64) := by kernel_rfl
theorem cv60_5 : tcv Try.prog 60 5 = some (some .u8) := by kernel_rfl
theorem cv60_6 : tcv Try.prog 60 6 = some (some .u8) := by kernel_rfl
theorem cv60_12 : tcv Try.prog 60 12 = some (some .u64) := by kernel_rfl
theorem cv60_21 : tcv Try.prog 60 21 = some (some .i32) := by kernel_rfl
theorem cv60_25 : tcv Try.prog 60 25 = some (some .u64) := by kernel_rfl
theorem cv60_28 : tcv Try.prog 60 28 = some (some .i64) := by kernel_rfl
theorem cv60_59 : tcv Try.prog 60 59 = some (some .u32) := by kernel_rfl
theorem cv60_60 : tcv Try.prog 60 60 = some (some .u8) := by kernel_rfl
theorem cv60_61 : tcv Try.prog 60 61 = some (some .u8) := by kernel_rfl
theorem cv60_64 : tcv Try.prog 60 64 = some (some .i32) := by kernel_rfl
theorem cv60_65 : tcv Try.prog 60 65 = some (some .i32) := by kernel_rfl
theorem cv61_2 : tcv Try.prog 61 2 = some (some .i64) := by kernel_rfl
theorem cv61_3 : tcv Try.prog 61 3 = some (some .i64) := by kernel_rfl
theorem cv61_5 : tcv Try.prog 61 5 = some (some .u8) := by kernel_rfl
theorem cv61_6 : tcv Try.prog 61 6 = some (some .u8) := by kernel_rfl
theorem cv61_12 : tcv Try.prog 61 12 = some (some .u64) := by kernel_rfl
theorem cv61_21 : tcv Try.prog 61 21 = some (some .i32) := by kernel_rfl
theorem cv61_25 : tcv Try.prog 61 25 = some (some .u64) := by kernel_rfl
theorem cv61_28 : tcv Try.prog 61 28 = some (some .i64) := by kernel_rfl
theorem cv61_59 : tcv Try.prog 61 59 = some (some .u32) := by kernel_rfl
theorem cv61_60 : tcv Try.prog 61 60 = some (some .u8) := by kernel_rfl
theorem cv61_61 : tcv Try.prog 61 61 = some (some .u8) := by kernel_rfl
theorem cv61_64 : tcv Try.prog 61 64 = some (some .i32) := by kernel_rfl
theorem cv61_65 : tcv Try.prog 61 65 = some (some .i32) := by kernel_rfl
theorem cv64_2 : tcv Try.prog 64 2 = some (some .i64) := by kernel_rfl
theorem cv64_3 : tcv Try.prog 64 3 = some (some .i64) := by kernel_rfl
theorem cv64_5 : tcv Try.prog 64 5 = some (some .u8) := by kernel_rfl
theorem cv64_6 : tcv Try.prog 64 6 = some (some .u8) := by kernel_rfl
theorem cv64_12 : tcv Try.prog 64 12 = some (some .u64) := by kernel_rfl
theorem cv64_21 : tcv Try.prog 64 21 = some (some .i32) := by kernel_rfl
theorem cv64_25 : tcv Try.prog 64 25 = some (some .u64) := by kernel_rfl
theorem cv64_28 : tcv Try.prog 64 28 = some (some .i64) := by kernel_rfl
theorem cv64_59 : tcv Try.prog 64 59 = some (some .u32) := by kernel_rfl
theorem cv64_60 : tcv Try.prog 64 60 = some (some .u8) := by kernel_rfl
theorem cv64_61 : tcv Try.prog 64 61 = some (some .u8) := by kernel_rfl
theorem cv64_64 : tcv Try.prog 64 64 = some (some .i32) := by kernel_rfl
theorem cv64_65 : tcv Try.prog 64 65 = some (some .i32) := by kernel_rfl
theorem cv65_2 : tcv Try.prog 65 2 = some (some .i64) := by kernel_rfl
theorem cv65_3 : tcv Try.prog 65 3 = some (some .i64) := by kernel_rfl
theorem cv65_5 : tcv Try.prog 65 5 = some (some .u8) := by kernel_rfl
theorem cv65_6 : tcv Try.prog 65 6 = some (some .u8) := by kernel_rfl
theorem cv65_12 : tcv Try.prog 65 12 = some (some .u64) := by kernel_rfl
theorem cv65_21 : tcv Try.prog 65 21 = some (some .i32) := by kernel_rfl
theorem cv65_25 : tcv Try.prog 65 25 = some (some .u64) := by kernel_rfl
theorem cv65_28 : tcv Try.prog 65 28 = some (some .i64) := by kernel_rfl
theorem cv65_59 : tcv Try.prog 65 59 = some (some .u32) := by kernel_rfl
theorem cv65_60 : tcv Try.prog 65 60 = some (some .u8) := by kernel_rfl
theorem cv65_61 : tcv Try.prog 65 61 = some (some .u8) := by kernel_rfl
theorem cv65_64 : tcv Try.prog 65 64 = some (some .i32) := by kernel_rfl
theorem cv65_65 : tcv Try.prog 65 65 = some (some .i32) := by kernel_rfl
attribute [go_sem] sz1 ag1 zc1 sr1 sz2 ag2 zc2 sr2 sz3 ag3 zc3 sr3 sz4 ag4 zc4 sr4 bo4 sz5 ag5 zc5 sr5 sz6 ag6 zc6 sr6 sz7 ag7 zc7 sr7 fd7_0 fo7_0 fd7_1 fo7_1 fd7_2 fo7_2 fd7_3 fo7_3 pl7 bd7 sz8 ag8 zc8 sr8 fd8_0 fo8_0 fd8_1 fo8_1 fd8_2 fo8_2 fd8_3 fo8_3 pl8 bd8 sz9 ag9 zc9 sr9 cu9 ln9 sz10 ag10 zc10 sr10 cu10 ln10 sz11 ag11 zc11 sr11 cu11 ln11 sz12 ag12 zc12 sr12 sz13 ag13 zc13 sr13 fd13_0 fo13_0 fd13_1 fo13_1 pl13 bd13 sz14 ag14 zc14 sr14 fd14_0 fo14_0 fd14_1 fo14_1 pl14 bd14 sz15 ag15 zc15 sr15 sz16 ag16 zc16 sr16 sz17 ag17 zc17 sr17 sz18 ag18 zc18 sr18 fd18_0 fo18_0 pl18 bd18 sz19 ag19 zc19 sr19 fd19_0 fo19_0 pl19 bd19 sz20 ag20 zc20 sr20 sz21 ag21 zc21 sr21 sz22 ag22 zc22 sr22 el22 cu22 ap22 bs22 ae22_22 ln22 sz23 ag23 zc23 sr23 fd23_0 fo23_0 fd23_1 fo23_1 fd23_2 fo23_2 pl23 bd23 sz24 ag24 zc24 sr24 fd24_0 fo24_0 fd24_1 fo24_1 fd24_2 fo24_2 pl24 bd24 sz25 ag25 zc25 sr25 sz26 ag26 zc26 sr26 sz27 ag27 zc27 sr27 sz28 ag28 zc28 sr28 sz30 ag30 zc30 sr30 sz31 ag31 zc31 sr31 el31 cu31 ap31 bs31 ae31_31 ln31 sz32 ag32 zc32 sr32 sz33 ag33 zc33 sr33 sz34 ag34 zc34 sr34 sz36 ag36 zc36 sr36 sz37 ag37 zc37 sr37 sz38 ag38 zc38 sr38 sz39 ag39 zc39 sr39 sz40 ag40 zc40 sr40 sz41 ag41 zc41 sr41 sz42 ag42 zc42 sr42 sz43 ag43 zc43 sr43 sz44 ag44 zc44 sr44 ln44 mk44 sz45 ag45 zc45 sr45 sz46 ag46 zc46 sr46 sz47 ag47 zc47 sr47 sz48 ag48 zc48 sr48 sz49 ag49 zc49 sr49 sz50 ag50 zc50 sr50 sz51 ag51 zc51 sr51 sz52 ag52 zc52 sr52 sz53 ag53 zc53 sr53 fd53_0 fo53_0 fd53_1 fo53_1 fd53_2 fo53_2 fd53_3 fo53_3 pl53 bd53 sz54 ag54 zc54 sr54 fd54_0 fo54_0 fd54_1 fo54_1 fd54_2 fo54_2 fd54_3 fo54_3 pl54 bd54 sz55 ag55 zc55 sr55 el55 ln55 sz56 ag56 zc56 sr56 fd56_0 pl56 bd56 sz57 ag57 zc57 sr57 fd57_0 pl57 bd57 sz58 ag58 zc58 sr58 sz59 ag59 zc59 sr59 sz60 ag60 zc60 sr60 sz61 ag61 zc61 sr61 sz62 ag62 zc62 sr62 sz63 ag63 zc63 sr63 sz64 ag64 zc64 sr64 sz65 ag65 zc65 sr65 sz66 ag66 zc66 sr66 fd66_0 fo66_0 fd66_1 fo66_1 fd66_2 fo66_2 fd66_3 fo66_3 fd66_4 fo66_4 fd66_5 fo66_5 fd66_6 fo66_6 fd66_7 fo66_7 fd66_8 fo66_8 fd66_9 fo66_9 fd66_10 fo66_10 pl66 bd66 sz67 ag67 zc67 sr67 fd67_0 fo67_0 fd67_1 fo67_1 fd67_2 fo67_2 fd67_3 fo67_3 fd67_4 fo67_4 fd67_5 fo67_5 fd67_6 fo67_6 fd67_7 fo67_7 fd67_8 fo67_8 fd67_9 fo67_9 fd67_10 fo67_10 pl67 bd67 sz68 ag68 zc68 sr68 mu44 cv2_2 cv2_3 cv2_5 cv2_6 cv2_12 cv2_21 cv2_25 cv2_28 cv2_59 cv2_60 cv2_61 cv2_64 cv2_65 cv3_2 cv3_3 cv3_5 cv3_6 cv3_12 cv3_21 cv3_25 cv3_28 cv3_59 cv3_60 cv3_61 cv3_64 cv3_65 cv5_2 cv5_3 cv5_5 cv5_6 cv5_12 cv5_21 cv5_25 cv5_28 cv5_59 cv5_60 cv5_61 cv5_64 cv5_65 cv6_2 cv6_3 cv6_5 cv6_6 cv6_12 cv6_21 cv6_25 cv6_28 cv6_59 cv6_60 cv6_61 cv6_64 cv6_65 cv9_9 cv9_10 cv9_11 cv10_9 cv10_10 cv10_11 cv11_9 cv11_10 cv11_11 cv12_2 cv12_3 cv12_5 cv12_6 cv12_12 cv12_21 cv12_25 cv12_28 cv12_59 cv12_60 cv12_61 cv12_64 cv12_65 cv21_2 cv21_3 cv21_5 cv21_6 cv21_12 cv21_21 cv21_25 cv21_28 cv21_59 cv21_60 cv21_61 cv21_64 cv21_65 cv25_2 cv25_3 cv25_5 cv25_6 cv25_12 cv25_21 cv25_25 cv25_28 cv25_59 cv25_60 cv25_61 cv25_64 cv25_65 cv28_2 cv28_3 cv28_5 cv28_6 cv28_12 cv28_21 cv28_25 cv28_28 cv28_59 cv28_60 cv28_61 cv28_64 cv28_65 cv59_2 cv59_3 cv59_5 cv59_6 cv59_12 cv59_21 cv59_25 cv59_28 cv59_59 cv59_60 cv59_61 cv59_64 cv59_65 cv60_2 cv60_3 cv60_5 cv60_6 cv60_12 cv60_21 cv60_25 cv60_28 cv60_59 cv60_60 cv60_61 cv60_64 cv60_65 cv61_2 cv61_3 cv61_5 cv61_6 cv61_12 cv61_21 cv61_25 cv61_28 cv61_59 cv61_60 cv61_61 cv61_64 cv61_65 cv64_2 cv64_3 cv64_5 cv64_6 cv64_12 cv64_21 cv64_25 cv64_28 cv64_59 cv64_60 cv64_61 cv64_64 cv64_65 cv65_2 cv65_3 cv65_5 cv65_6 cv65_12 cv65_21 cv65_25 cv65_28 cv65_59 cv65_60 cv65_61 cv65_64 cv65_65
end Go.Proofs.Ytkcpnmphlanocaa.Ty
