/- Texts joined: Ty. No conditions. -/
import Derived.Test.YtjdhgaflenhljaaDoorProg
import Derived.Test.YtjdhgaflenhljaaDoorMrE
import Derived.KernelRfl
/- The closed facts on the types of this translation: cells, zero values, places of fields, elements. By program; no conditions. -/
namespace Go.Proofs.YtjdhgaflenhljaaDoor.Ty
open Go Go.Proofs Go.Abs
theorem mixed : Tryd.prog.follows .mixedOrders = true := by kernel_rfl
theorem sz1 : tsz Tryd.prog 1 = some 1 := by kernel_rfl
theorem ag1 : tag Tryd.prog 1 = some none := by kernel_rfl
theorem zc1 : tzc Tryd.prog 1 = some [.nilFunc] := by kernel_rfl
theorem sr1 : tsrc Tryd.prog 1 = true := by kernel_rfl
theorem sz2 : tsz Tryd.prog 2 = some 1 := by kernel_rfl
theorem ag2 : tag Tryd.prog 2 = some none := by kernel_rfl
theorem zc2 : tzc Tryd.prog 2 = some [(.int .i64 0)] := by kernel_rfl
theorem sr2 : tsrc Tryd.prog 2 = false := by kernel_rfl
theorem sz3 : tsz Tryd.prog 3 = some 1 := by kernel_rfl
theorem ag3 : tag Tryd.prog 3 = some none := by kernel_rfl
theorem zc3 : tzc Tryd.prog 3 = some [(.int .i64 0)] := by kernel_rfl
theorem sr3 : tsrc Tryd.prog 3 = false := by kernel_rfl
theorem sz4 : tsz Tryd.prog 4 = some 1 := by kernel_rfl
theorem ag4 : tag Tryd.prog 4 = some none := by kernel_rfl
theorem zc4 : tzc Tryd.prog 4 = some [(.bool false)] := by kernel_rfl
theorem sr4 : tsrc Tryd.prog 4 = true := by kernel_rfl
theorem bo4 : tbool Tryd.prog 4 = true := by kernel_rfl
theorem sz5 : tsz Tryd.prog 5 = some 1 := by kernel_rfl
theorem ag5 : tag Tryd.prog 5 = some none := by kernel_rfl
theorem zc5 : tzc Tryd.prog 5 = some [(.int .u8 0)] := by kernel_rfl
theorem sr5 : tsrc Tryd.prog 5 = false := by kernel_rfl
theorem sz6 : tsz Tryd.prog 6 = some 1 := by kernel_rfl
theorem ag6 : tag Tryd.prog 6 = some none := by kernel_rfl
theorem zc6 : tzc Tryd.prog 6 = some [(.int .u8 0)] := by kernel_rfl
theorem sr6 : tsrc Tryd.prog 6 = false := by kernel_rfl
theorem ni6 : tni Tryd.prog 6 = true := by kernel_rfl
theorem ta6 : tas Tryd.prog 6 = some (.int .u8 0) := by kernel_rfl
theorem sz7 : tsz Tryd.prog 7 = some 4 := by kernel_rfl
theorem ag7 : tag Tryd.prog 7 = some (some 4) := by kernel_rfl
theorem zc7 : tzc Tryd.prog 7 = some [(.int .i64 0), (.int .i64 0), (.bool false), (.int .u8 0)] := by kernel_rfl
theorem sr7 : tsrc Tryd.prog 7 = true := by kernel_rfl
theorem fd7_0 : tfd Tryd.prog 7 0 = some (0, 2) := by kernel_rfl
theorem fo7_0 : tfo Tryd.prog 7 0 = some 0 := by kernel_rfl
theorem fd7_1 : tfd Tryd.prog 7 1 = some (1, 3) := by kernel_rfl
theorem fo7_1 : tfo Tryd.prog 7 1 = some 1 := by kernel_rfl
theorem fd7_2 : tfd Tryd.prog 7 2 = some (2, 4) := by kernel_rfl
theorem fo7_2 : tfo Tryd.prog 7 2 = some 2 := by kernel_rfl
theorem fd7_3 : tfd Tryd.prog 7 3 = some (3, 6) := by kernel_rfl
theorem fo7_3 : tfo Tryd.prog 7 3 = some 3 := by kernel_rfl
theorem pl7 : tpl Tryd.prog 7 = some [(0, 1), (1, 1), (2, 1), (3, 1)] := by kernel_rfl
theorem bd7 (ps : List (Nat × AV)) (K : AV → Prop) : aBuild Tryd.prog 7 ps K = aBld (tpl Tryd.prog 7) (tzc Tryd.prog 7) ps K := aBuild_eq (by rw [pl7]; rfl) ps K
theorem sz8 : tsz Tryd.prog 8 = some 4 := by kernel_rfl
theorem ag8 : tag Tryd.prog 8 = some (some 4) := by kernel_rfl
theorem zc8 : tzc Tryd.prog 8 = some [(.int .i64 0), (.int .i64 0), (.bool false), (.int .u8 0)] := by kernel_rfl
theorem sr8 : tsrc Tryd.prog 8 = true := by kernel_rfl
theorem fd8_0 : tfd Tryd.prog 8 0 = some (0, 2) := by kernel_rfl
theorem fo8_0 : tfo Tryd.prog 8 0 = some 0 := by kernel_rfl
theorem fd8_1 : tfd Tryd.prog 8 1 = some (1, 3) := by kernel_rfl
theorem fo8_1 : tfo Tryd.prog 8 1 = some 1 := by kernel_rfl
theorem fd8_2 : tfd Tryd.prog 8 2 = some (2, 4) := by kernel_rfl
theorem fo8_2 : tfo Tryd.prog 8 2 = some 2 := by kernel_rfl
theorem fd8_3 : tfd Tryd.prog 8 3 = some (3, 6) := by kernel_rfl
theorem fo8_3 : tfo Tryd.prog 8 3 = some 3 := by kernel_rfl
theorem pl8 : tpl Tryd.prog 8 = some [(0, 1), (1, 1), (2, 1), (3, 1)] := by kernel_rfl
theorem bd8 (ps : List (Nat × AV)) (K : AV → Prop) : aBuild Tryd.prog 8 ps K = aBld (tpl Tryd.prog 8) (tzc Tryd.prog 8) ps K := aBuild_eq (by rw [pl8]; rfl) ps K
theorem ni8 : tni Tryd.prog 8 = true := by kernel_rfl
theorem ta8 : tas Tryd.prog 8 = some (.agg [(.int .i64 0), (.int .i64 0), (.bool false), (.int .u8 0)]) := by kernel_rfl
theorem sz9 : tsz Tryd.prog 9 = some 1 := by kernel_rfl
theorem ag9 : tag Tryd.prog 9 = some none := by kernel_rfl
theorem zc9 : tzc Tryd.prog 9 = some [(.str ⟨#[]⟩)] := by kernel_rfl
theorem sr9 : tsrc Tryd.prog 9 = true := by kernel_rfl
theorem cu9 : tcut Tryd.prog 9 = some none := by kernel_rfl
theorem ln9 : tlen Tryd.prog 9 = some .str := by kernel_rfl
theorem sz10 : tsz Tryd.prog 10 = some 1 := by kernel_rfl
theorem ag10 : tag Tryd.prog 10 = some none := by kernel_rfl
theorem zc10 : tzc Tryd.prog 10 = some [(.str ⟨#[]⟩)] := by kernel_rfl
theorem sr10 : tsrc Tryd.prog 10 = true := by kernel_rfl
theorem ni10 : tni Tryd.prog 10 = true := by kernel_rfl
theorem ta10 : tas Tryd.prog 10 = some (.str ⟨#[]⟩) := by kernel_rfl
theorem cu10 : tcut Tryd.prog 10 = some none := by kernel_rfl
theorem ln10 : tlen Tryd.prog 10 = some .str := by kernel_rfl
theorem sz11 : tsz Tryd.prog 11 = some 1 := by kernel_rfl
theorem ag11 : tag Tryd.prog 11 = some none := by kernel_rfl
theorem zc11 : tzc Tryd.prog 11 = some [(.str ⟨#[]⟩)] := by kernel_rfl
theorem sr11 : tsrc Tryd.prog 11 = true := by kernel_rfl
theorem ni11 : tni Tryd.prog 11 = true := by kernel_rfl
theorem ta11 : tas Tryd.prog 11 = some (.str ⟨#[]⟩) := by kernel_rfl
theorem cu11 : tcut Tryd.prog 11 = some none := by kernel_rfl
theorem ln11 : tlen Tryd.prog 11 = some .str := by kernel_rfl
theorem sz12 : tsz Tryd.prog 12 = some 1 := by kernel_rfl
theorem ag12 : tag Tryd.prog 12 = some none := by kernel_rfl
theorem zc12 : tzc Tryd.prog 12 = some [(.int .u64 0)] := by kernel_rfl
theorem sr12 : tsrc Tryd.prog 12 = false := by kernel_rfl
theorem sz13 : tsz Tryd.prog 13 = some 2 := by kernel_rfl
theorem ag13 : tag Tryd.prog 13 = some (some 2) := by kernel_rfl
theorem zc13 : tzc Tryd.prog 13 = some [(.str ⟨#[]⟩), (.int .u64 0)] := by kernel_rfl
theorem sr13 : tsrc Tryd.prog 13 = true := by kernel_rfl
theorem fd13_0 : tfd Tryd.prog 13 0 = some (0, 9) := by kernel_rfl
theorem fo13_0 : tfo Tryd.prog 13 0 = some 0 := by kernel_rfl
theorem fd13_1 : tfd Tryd.prog 13 1 = some (1, 12) := by kernel_rfl
theorem fo13_1 : tfo Tryd.prog 13 1 = some 1 := by kernel_rfl
theorem pl13 : tpl Tryd.prog 13 = some [(0, 1), (1, 1)] := by kernel_rfl
theorem bd13 (ps : List (Nat × AV)) (K : AV → Prop) : aBuild Tryd.prog 13 ps K = aBld (tpl Tryd.prog 13) (tzc Tryd.prog 13) ps K := aBuild_eq (by rw [pl13]; rfl) ps K
theorem sz14 : tsz Tryd.prog 14 = some 2 := by kernel_rfl
theorem ag14 : tag Tryd.prog 14 = some (some 2) := by kernel_rfl
theorem zc14 : tzc Tryd.prog 14 = some [(.str ⟨#[]⟩), (.int .u64 0)] := by kernel_rfl
theorem sr14 : tsrc Tryd.prog 14 = true := by kernel_rfl
theorem fd14_0 : tfd Tryd.prog 14 0 = some (0, 9) := by kernel_rfl
theorem fo14_0 : tfo Tryd.prog 14 0 = some 0 := by kernel_rfl
theorem fd14_1 : tfd Tryd.prog 14 1 = some (1, 12) := by kernel_rfl
theorem fo14_1 : tfo Tryd.prog 14 1 = some 1 := by kernel_rfl
theorem pl14 : tpl Tryd.prog 14 = some [(0, 1), (1, 1)] := by kernel_rfl
theorem bd14 (ps : List (Nat × AV)) (K : AV → Prop) : aBuild Tryd.prog 14 ps K = aBld (tpl Tryd.prog 14) (tzc Tryd.prog 14) ps K := aBuild_eq (by rw [pl14]; rfl) ps K
theorem ni14 : tni Tryd.prog 14 = true := by kernel_rfl
theorem ta14 : tas Tryd.prog 14 = some (.agg [(.str ⟨#[]⟩), (.int .u64 0)]) := by kernel_rfl
theorem sz15 : tsz Tryd.prog 15 = some 1 := by kernel_rfl
theorem ag15 : tag Tryd.prog 15 = some none := by kernel_rfl
theorem zc15 : tzc Tryd.prog 15 = some [(.ptr none)] := by kernel_rfl
theorem sr15 : tsrc Tryd.prog 15 = true := by kernel_rfl
theorem ni15 : tni Tryd.prog 15 = true := by kernel_rfl
theorem ta15 : tas Tryd.prog 15 = some (.ptr none) := by kernel_rfl
theorem sz16 : tsz Tryd.prog 16 = some 1 := by kernel_rfl
theorem ag16 : tag Tryd.prog 16 = some none := by kernel_rfl
theorem zc16 : tzc Tryd.prog 16 = some [(.ptr none)] := by kernel_rfl
theorem sr16 : tsrc Tryd.prog 16 = true := by kernel_rfl
theorem ni16 : tni Tryd.prog 16 = true := by kernel_rfl
theorem ta16 : tas Tryd.prog 16 = some (.ptr none) := by kernel_rfl
theorem sz17 : tsz Tryd.prog 17 = some 1 := by kernel_rfl
theorem ag17 : tag Tryd.prog 17 = some none := by kernel_rfl
theorem zc17 : tzc Tryd.prog 17 = some [(.ptr none)] := by kernel_rfl
theorem sr17 : tsrc Tryd.prog 17 = true := by kernel_rfl
theorem ni17 : tni Tryd.prog 17 = true := by kernel_rfl
theorem ta17 : tas Tryd.prog 17 = some (.ptr none) := by kernel_rfl
theorem sz18 : tsz Tryd.prog 18 = some 1 := by kernel_rfl
theorem ag18 : tag Tryd.prog 18 = some (some 1) := by kernel_rfl
theorem zc18 : tzc Tryd.prog 18 = some [(.ptr none)] := by kernel_rfl
theorem sr18 : tsrc Tryd.prog 18 = true := by kernel_rfl
theorem fd18_0 : tfd Tryd.prog 18 0 = some (0, 17) := by kernel_rfl
theorem fo18_0 : tfo Tryd.prog 18 0 = some 0 := by kernel_rfl
theorem pl18 : tpl Tryd.prog 18 = some [(0, 1)] := by kernel_rfl
theorem bd18 (ps : List (Nat × AV)) (K : AV → Prop) : aBuild Tryd.prog 18 ps K = aBld (tpl Tryd.prog 18) (tzc Tryd.prog 18) ps K := aBuild_eq (by rw [pl18]; rfl) ps K
theorem sz19 : tsz Tryd.prog 19 = some 1 := by kernel_rfl
theorem ag19 : tag Tryd.prog 19 = some (some 1) := by kernel_rfl
theorem zc19 : tzc Tryd.prog 19 = some [(.ptr none)] := by kernel_rfl
theorem sr19 : tsrc Tryd.prog 19 = true := by kernel_rfl
theorem fd19_0 : tfd Tryd.prog 19 0 = some (0, 17) := by kernel_rfl
theorem fo19_0 : tfo Tryd.prog 19 0 = some 0 := by kernel_rfl
theorem pl19 : tpl Tryd.prog 19 = some [(0, 1)] := by kernel_rfl
theorem bd19 (ps : List (Nat × AV)) (K : AV → Prop) : aBuild Tryd.prog 19 ps K = aBld (tpl Tryd.prog 19) (tzc Tryd.prog 19) ps K := aBuild_eq (by rw [pl19]; rfl) ps K
theorem ni19 : tni Tryd.prog 19 = true := by kernel_rfl
theorem ta19 : tas Tryd.prog 19 = some (.agg [(.ptr none)]) := by kernel_rfl
theorem sz20 : tsz Tryd.prog 20 = some 1 := by kernel_rfl
theorem ag20 : tag Tryd.prog 20 = some none := by kernel_rfl
theorem zc20 : tzc Tryd.prog 20 = some [.nilIface] := by kernel_rfl
theorem sr20 : tsrc Tryd.prog 20 = true := by kernel_rfl
theorem if20 : tifc Tryd.prog 20 = true := by kernel_rfl
theorem sz21 : tsz Tryd.prog 21 = some 1 := by kernel_rfl
theorem ag21 : tag Tryd.prog 21 = some none := by kernel_rfl
theorem zc21 : tzc Tryd.prog 21 = some [(.int .i32 0)] := by kernel_rfl
theorem sr21 : tsrc Tryd.prog 21 = false := by kernel_rfl
theorem sz22 : tsz Tryd.prog 22 = some 1 := by kernel_rfl
theorem ag22 : tag Tryd.prog 22 = some none := by kernel_rfl
theorem zc22 : tzc Tryd.prog 22 = some [(.sl [] .full)] := by kernel_rfl
theorem sr22 : tsrc Tryd.prog 22 = true := by kernel_rfl
theorem el22 : tel Tryd.prog 22 = some (none, 1) := by kernel_rfl
theorem cu22 : tcut Tryd.prog 22 = some (some 1) := by kernel_rfl
theorem ap22 : tap Tryd.prog 22 = some (1, 1) := by kernel_rfl
theorem bs22 : tbs Tryd.prog 22 = some 1 := by kernel_rfl
theorem ms22 : tms Tryd.prog 22 = some (1, 1, [(.bool false)], 4) := by kernel_rfl
theorem mm22 (l c : AV) (h : AH) (K : AV → AH → Prop) : aMakeSlice Tryd.prog 22 l c h K = aMkT (tms Tryd.prog 22) l c h K := aMakeSlice_eq (by rw [ms22]; rfl) l c K
theorem mc22 (x : AV) (h : AH) (K : AV → AH → Prop) : aClear Tryd.prog 22 x h K = aClT (tms Tryd.prog 22) x h K := aClear_eq (by rw [ms22]; rfl) x K
theorem mb22 (n : Nat) (ps : List (Nat × AV)) (h : AH) (K : AV → AH → Prop) : aBuildSliceM Tryd.prog 22 n ps h K = aBsM (tms Tryd.prog 22) n ps h K := aBuildSliceM_eq (by rw [ms22]; rfl) n ps K
theorem ma22 (s x : AV) (h : AH) (K : AV → AH → Prop) : aAppendM Tryd.prog 22 22 s x h K = aApM (tms Tryd.prog 22) s x h K := aAppendM_eq sr22 (by rw [ms22]; rfl) s x K
theorem ae22_22 (s x : AV) (h : AH) (K : AV → AH → Prop) : aAppend Tryd.prog 22 22 s x h K = aAp (tap Tryd.prog 22) s x h K := aAppend_eq sr22 s x K
theorem ln22 : tlen Tryd.prog 22 = some .sl := by kernel_rfl
theorem sz23 : tsz Tryd.prog 23 = some 1 := by kernel_rfl
theorem ag23 : tag Tryd.prog 23 = some none := by kernel_rfl
theorem zc23 : tzc Tryd.prog 23 = some [.nilFunc] := by kernel_rfl
theorem sr23 : tsrc Tryd.prog 23 = true := by kernel_rfl
theorem sz24 : tsz Tryd.prog 24 = some 1 := by kernel_rfl
theorem ag24 : tag Tryd.prog 24 = some none := by kernel_rfl
theorem zc24 : tzc Tryd.prog 24 = some [(.int .i64 0)] := by kernel_rfl
theorem sr24 : tsrc Tryd.prog 24 = false := by kernel_rfl
theorem ni24 : tni Tryd.prog 24 = true := by kernel_rfl
theorem ta24 : tas Tryd.prog 24 = some (.int .i64 0) := by kernel_rfl
theorem sz26 : tsz Tryd.prog 26 = some 1 := by kernel_rfl
theorem ag26 : tag Tryd.prog 26 = some none := by kernel_rfl
theorem zc26 : tzc Tryd.prog 26 = some [.nilFunc] := by kernel_rfl
theorem sr26 : tsrc Tryd.prog 26 = true := by kernel_rfl
theorem sz27 : tsz Tryd.prog 27 = some 1 := by kernel_rfl
theorem ag27 : tag Tryd.prog 27 = some none := by kernel_rfl
theorem zc27 : tzc Tryd.prog 27 = some [(.sl [] .full)] := by kernel_rfl
theorem sr27 : tsrc Tryd.prog 27 = true := by kernel_rfl
theorem el27 : tel Tryd.prog 27 = some (none, 1) := by kernel_rfl
theorem cu27 : tcut Tryd.prog 27 = some (some 1) := by kernel_rfl
theorem ap27 : tap Tryd.prog 27 = some (1, 8) := by kernel_rfl
theorem bs27 : tbs Tryd.prog 27 = some 1 := by kernel_rfl
theorem ms27 : tms Tryd.prog 27 = some (1, 8, [(.int .i64 0)], 3) := by kernel_rfl
theorem mm27 (l c : AV) (h : AH) (K : AV → AH → Prop) : aMakeSlice Tryd.prog 27 l c h K = aMkT (tms Tryd.prog 27) l c h K := aMakeSlice_eq (by rw [ms27]; rfl) l c K
theorem mc27 (x : AV) (h : AH) (K : AV → AH → Prop) : aClear Tryd.prog 27 x h K = aClT (tms Tryd.prog 27) x h K := aClear_eq (by rw [ms27]; rfl) x K
theorem mb27 (n : Nat) (ps : List (Nat × AV)) (h : AH) (K : AV → AH → Prop) : aBuildSliceM Tryd.prog 27 n ps h K = aBsM (tms Tryd.prog 27) n ps h K := aBuildSliceM_eq (by rw [ms27]; rfl) n ps K
theorem ma27 (s x : AV) (h : AH) (K : AV → AH → Prop) : aAppendM Tryd.prog 27 27 s x h K = aApM (tms Tryd.prog 27) s x h K := aAppendM_eq sr27 (by rw [ms27]; rfl) s x K
theorem ae27_27 (s x : AV) (h : AH) (K : AV → AH → Prop) : aAppend Tryd.prog 27 27 s x h K = aAp (tap Tryd.prog 27) s x h K := aAppend_eq sr27 s x K
theorem ln27 : tlen Tryd.prog 27 = some .sl := by kernel_rfl
theorem sz29 : tsz Tryd.prog 29 = some 1 := by kernel_rfl
theorem ag29 : tag Tryd.prog 29 = some none := by kernel_rfl
theorem zc29 : tzc Tryd.prog 29 = some [.nilFunc] := by kernel_rfl
theorem sr29 : tsrc Tryd.prog 29 = true := by kernel_rfl
theorem sz30 : tsz Tryd.prog 30 = some 1 := by kernel_rfl
theorem ag30 : tag Tryd.prog 30 = some none := by kernel_rfl
theorem zc30 : tzc Tryd.prog 30 = some [.nilFunc] := by kernel_rfl
theorem sr30 : tsrc Tryd.prog 30 = true := by kernel_rfl
theorem sz31 : tsz Tryd.prog 31 = some 1 := by kernel_rfl
theorem ag31 : tag Tryd.prog 31 = some none := by kernel_rfl
theorem zc31 : tzc Tryd.prog 31 = some [.nilFunc] := by kernel_rfl
theorem sr31 : tsrc Tryd.prog 31 = true := by kernel_rfl
theorem sz32 : tsz Tryd.prog 32 = some 1 := by kernel_rfl
theorem ag32 : tag Tryd.prog 32 = some none := by kernel_rfl
theorem zc32 : tzc Tryd.prog 32 = some [.nilFunc] := by kernel_rfl
theorem sr32 : tsrc Tryd.prog 32 = true := by kernel_rfl
theorem sz33 : tsz Tryd.prog 33 = some 1 := by kernel_rfl
theorem ag33 : tag Tryd.prog 33 = some none := by kernel_rfl
theorem zc33 : tzc Tryd.prog 33 = some [(.sl [] .full)] := by kernel_rfl
theorem sr33 : tsrc Tryd.prog 33 = true := by kernel_rfl
theorem el33 : tel Tryd.prog 33 = some (none, 13) := by kernel_rfl
theorem cu33 : tcut Tryd.prog 33 = some (some 13) := by kernel_rfl
theorem ap33 : tap Tryd.prog 33 = some (13, 184) := by kernel_rfl
theorem bs33 : tbs Tryd.prog 33 = some 13 := by kernel_rfl
theorem ms33 : tms Tryd.prog 33 = some (13, 184, [(.int .i64 0), (.int .i64 0), (.int .i64 0), (.str ⟨#[]⟩), (.sl [] .full), (.sl [] .full), (.sl [] .full), (.int .i64 0), (.int .i64 0), (.int .i64 0), (.str ⟨#[]⟩), (.sl [] .full), (.int .i64 0)], 45) := by kernel_rfl
theorem mm33 (l c : AV) (h : AH) (K : AV → AH → Prop) : aMakeSlice Tryd.prog 33 l c h K = aMkT (tms Tryd.prog 33) l c h K := aMakeSlice_eq (by rw [ms33]; rfl) l c K
theorem mc33 (x : AV) (h : AH) (K : AV → AH → Prop) : aClear Tryd.prog 33 x h K = aClT (tms Tryd.prog 33) x h K := aClear_eq (by rw [ms33]; rfl) x K
theorem mb33 (n : Nat) (ps : List (Nat × AV)) (h : AH) (K : AV → AH → Prop) : aBuildSliceM Tryd.prog 33 n ps h K = aBsM (tms Tryd.prog 33) n ps h K := aBuildSliceM_eq (by rw [ms33]; rfl) n ps K
theorem ma33 (s x : AV) (h : AH) (K : AV → AH → Prop) : aAppendM Tryd.prog 33 33 s x h K = aApM (tms Tryd.prog 33) s x h K := aAppendM_eq sr33 (by rw [ms33]; rfl) s x K
theorem ae33_33 (s x : AV) (h : AH) (K : AV → AH → Prop) : aAppend Tryd.prog 33 33 s x h K = aAp (tap Tryd.prog 33) s x h K := aAppend_eq sr33 s x K
theorem ln33 : tlen Tryd.prog 33 = some .sl := by kernel_rfl
theorem sz34 : tsz Tryd.prog 34 = some 1 := by kernel_rfl
theorem ag34 : tag Tryd.prog 34 = some none := by kernel_rfl
theorem zc34 : tzc Tryd.prog 34 = some [.nilFunc] := by kernel_rfl
theorem sr34 : tsrc Tryd.prog 34 = true := by kernel_rfl
theorem sz36 : tsz Tryd.prog 36 = some 1 := by kernel_rfl
theorem ag36 : tag Tryd.prog 36 = some none := by kernel_rfl
theorem zc36 : tzc Tryd.prog 36 = some [.nilFunc] := by kernel_rfl
theorem sr36 : tsrc Tryd.prog 36 = true := by kernel_rfl
theorem sz37 : tsz Tryd.prog 37 = some 1 := by kernel_rfl
theorem ag37 : tag Tryd.prog 37 = some none := by kernel_rfl
theorem zc37 : tzc Tryd.prog 37 = some [(.sl [] .full)] := by kernel_rfl
theorem sr37 : tsrc Tryd.prog 37 = true := by kernel_rfl
theorem el37 : tel Tryd.prog 37 = some (none, 1) := by kernel_rfl
theorem cu37 : tcut Tryd.prog 37 = some (some 1) := by kernel_rfl
theorem ap37 : tap Tryd.prog 37 = some (1, 16) := by kernel_rfl
theorem bs37 : tbs Tryd.prog 37 = some 1 := by kernel_rfl
theorem ms37 : tms Tryd.prog 37 = some (1, 16, [(.str ⟨#[]⟩)], 9) := by kernel_rfl
theorem mm37 (l c : AV) (h : AH) (K : AV → AH → Prop) : aMakeSlice Tryd.prog 37 l c h K = aMkT (tms Tryd.prog 37) l c h K := aMakeSlice_eq (by rw [ms37]; rfl) l c K
theorem mc37 (x : AV) (h : AH) (K : AV → AH → Prop) : aClear Tryd.prog 37 x h K = aClT (tms Tryd.prog 37) x h K := aClear_eq (by rw [ms37]; rfl) x K
theorem mb37 (n : Nat) (ps : List (Nat × AV)) (h : AH) (K : AV → AH → Prop) : aBuildSliceM Tryd.prog 37 n ps h K = aBsM (tms Tryd.prog 37) n ps h K := aBuildSliceM_eq (by rw [ms37]; rfl) n ps K
theorem ma37 (s x : AV) (h : AH) (K : AV → AH → Prop) : aAppendM Tryd.prog 37 37 s x h K = aApM (tms Tryd.prog 37) s x h K := aAppendM_eq sr37 (by rw [ms37]; rfl) s x K
theorem ae37_37 (s x : AV) (h : AH) (K : AV → AH → Prop) : aAppend Tryd.prog 37 37 s x h K = aAp (tap Tryd.prog 37) s x h K := aAppend_eq sr37 s x K
theorem ln37 : tlen Tryd.prog 37 = some .sl := by kernel_rfl
theorem sz38 : tsz Tryd.prog 38 = some 1 := by kernel_rfl
theorem ag38 : tag Tryd.prog 38 = some none := by kernel_rfl
theorem zc38 : tzc Tryd.prog 38 = some [(.sl [] .full)] := by kernel_rfl
theorem sr38 : tsrc Tryd.prog 38 = true := by kernel_rfl
theorem el38 : tel Tryd.prog 38 = some (none, 8) := by kernel_rfl
theorem cu38 : tcut Tryd.prog 38 = some (some 8) := by kernel_rfl
theorem ap38 : tap Tryd.prog 38 = some (8, 96) := by kernel_rfl
theorem bs38 : tbs Tryd.prog 38 = some 8 := by kernel_rfl
theorem ms38 : tms Tryd.prog 38 = some (8, 96, [(.str ⟨#[]⟩), (.int .i64 0), (.int .i64 0), (.int .i64 0), (.int .i64 0), (.int .i64 0), (.str ⟨#[]⟩), (.sl [] .full)], 70) := by kernel_rfl
theorem mm38 (l c : AV) (h : AH) (K : AV → AH → Prop) : aMakeSlice Tryd.prog 38 l c h K = aMkT (tms Tryd.prog 38) l c h K := aMakeSlice_eq (by rw [ms38]; rfl) l c K
theorem mc38 (x : AV) (h : AH) (K : AV → AH → Prop) : aClear Tryd.prog 38 x h K = aClT (tms Tryd.prog 38) x h K := aClear_eq (by rw [ms38]; rfl) x K
theorem mb38 (n : Nat) (ps : List (Nat × AV)) (h : AH) (K : AV → AH → Prop) : aBuildSliceM Tryd.prog 38 n ps h K = aBsM (tms Tryd.prog 38) n ps h K := aBuildSliceM_eq (by rw [ms38]; rfl) n ps K
theorem ma38 (s x : AV) (h : AH) (K : AV → AH → Prop) : aAppendM Tryd.prog 38 38 s x h K = aApM (tms Tryd.prog 38) s x h K := aAppendM_eq sr38 (by rw [ms38]; rfl) s x K
theorem ae38_38 (s x : AV) (h : AH) (K : AV → AH → Prop) : aAppend Tryd.prog 38 38 s x h K = aAp (tap Tryd.prog 38) s x h K := aAppend_eq sr38 s x K
theorem ln38 : tlen Tryd.prog 38 = some .sl := by kernel_rfl
theorem sz39 : tsz Tryd.prog 39 = some 1 := by kernel_rfl
theorem ag39 : tag Tryd.prog 39 = some none := by kernel_rfl
theorem zc39 : tzc Tryd.prog 39 = some [(.sl [] .full)] := by kernel_rfl
theorem sr39 : tsrc Tryd.prog 39 = true := by kernel_rfl
theorem el39 : tel Tryd.prog 39 = some (none, 5) := by kernel_rfl
theorem cu39 : tcut Tryd.prog 39 = some (some 5) := by kernel_rfl
theorem ap39 : tap Tryd.prog 39 = some (5, 64) := by kernel_rfl
theorem bs39 : tbs Tryd.prog 39 = some 5 := by kernel_rfl
theorem ms39 : tms Tryd.prog 39 = some (5, 64, [(.int .i64 0), (.int .i64 0), (.int .i64 0), (.str ⟨#[]⟩), (.sl [] .full)], 41) := by kernel_rfl
theorem mm39 (l c : AV) (h : AH) (K : AV → AH → Prop) : aMakeSlice Tryd.prog 39 l c h K = aMkT (tms Tryd.prog 39) l c h K := aMakeSlice_eq (by rw [ms39]; rfl) l c K
theorem mc39 (x : AV) (h : AH) (K : AV → AH → Prop) : aClear Tryd.prog 39 x h K = aClT (tms Tryd.prog 39) x h K := aClear_eq (by rw [ms39]; rfl) x K
theorem mb39 (n : Nat) (ps : List (Nat × AV)) (h : AH) (K : AV → AH → Prop) : aBuildSliceM Tryd.prog 39 n ps h K = aBsM (tms Tryd.prog 39) n ps h K := aBuildSliceM_eq (by rw [ms39]; rfl) n ps K
theorem ma39 (s x : AV) (h : AH) (K : AV → AH → Prop) : aAppendM Tryd.prog 39 39 s x h K = aApM (tms Tryd.prog 39) s x h K := aAppendM_eq sr39 (by rw [ms39]; rfl) s x K
theorem ae39_39 (s x : AV) (h : AH) (K : AV → AH → Prop) : aAppend Tryd.prog 39 39 s x h K = aAp (tap Tryd.prog 39) s x h K := aAppend_eq sr39 s x K
theorem ln39 : tlen Tryd.prog 39 = some .sl := by kernel_rfl
theorem sz40 : tsz Tryd.prog 40 = some 5 := by kernel_rfl
theorem ag40 : tag Tryd.prog 40 = some (some 5) := by kernel_rfl
theorem zc40 : tzc Tryd.prog 40 = some [(.int .i64 0), (.int .i64 0), (.int .i64 0), (.str ⟨#[]⟩), (.sl [] .full)] := by kernel_rfl
theorem sr40 : tsrc Tryd.prog 40 = true := by kernel_rfl
theorem fd40_0 : tfd Tryd.prog 40 0 = some (0, 3) := by kernel_rfl
theorem fo40_0 : tfo Tryd.prog 40 0 = some 0 := by kernel_rfl
theorem fd40_1 : tfd Tryd.prog 40 1 = some (1, 3) := by kernel_rfl
theorem fo40_1 : tfo Tryd.prog 40 1 = some 1 := by kernel_rfl
theorem fd40_2 : tfd Tryd.prog 40 2 = some (2, 3) := by kernel_rfl
theorem fo40_2 : tfo Tryd.prog 40 2 = some 2 := by kernel_rfl
theorem fd40_3 : tfd Tryd.prog 40 3 = some (3, 9) := by kernel_rfl
theorem fo40_3 : tfo Tryd.prog 40 3 = some 3 := by kernel_rfl
theorem fd40_4 : tfd Tryd.prog 40 4 = some (4, 39) := by kernel_rfl
theorem fo40_4 : tfo Tryd.prog 40 4 = some 4 := by kernel_rfl
theorem pl40 : tpl Tryd.prog 40 = some [(0, 1), (1, 1), (2, 1), (3, 1), (4, 1)] := by kernel_rfl
theorem bd40 (ps : List (Nat × AV)) (K : AV → Prop) : aBuild Tryd.prog 40 ps K = aBld (tpl Tryd.prog 40) (tzc Tryd.prog 40) ps K := aBuild_eq (by rw [pl40]; rfl) ps K
theorem sz41 : tsz Tryd.prog 41 = some 5 := by kernel_rfl
theorem ag41 : tag Tryd.prog 41 = some (some 5) := by kernel_rfl
theorem zc41 : tzc Tryd.prog 41 = some [(.int .i64 0), (.int .i64 0), (.int .i64 0), (.str ⟨#[]⟩), (.sl [] .full)] := by kernel_rfl
theorem sr41 : tsrc Tryd.prog 41 = true := by kernel_rfl
theorem fd41_0 : tfd Tryd.prog 41 0 = some (0, 3) := by kernel_rfl
theorem fo41_0 : tfo Tryd.prog 41 0 = some 0 := by kernel_rfl
theorem fd41_1 : tfd Tryd.prog 41 1 = some (1, 3) := by kernel_rfl
theorem fo41_1 : tfo Tryd.prog 41 1 = some 1 := by kernel_rfl
theorem fd41_2 : tfd Tryd.prog 41 2 = some (2, 3) := by kernel_rfl
theorem fo41_2 : tfo Tryd.prog 41 2 = some 2 := by kernel_rfl
theorem fd41_3 : tfd Tryd.prog 41 3 = some (3, 9) := by kernel_rfl
theorem fo41_3 : tfo Tryd.prog 41 3 = some 3 := by kernel_rfl
theorem fd41_4 : tfd Tryd.prog 41 4 = some (4, 39) := by kernel_rfl
theorem fo41_4 : tfo Tryd.prog 41 4 = some 4 := by kernel_rfl
theorem pl41 : tpl Tryd.prog 41 = some [(0, 1), (1, 1), (2, 1), (3, 1), (4, 1)] := by kernel_rfl
theorem bd41 (ps : List (Nat × AV)) (K : AV → Prop) : aBuild Tryd.prog 41 ps K = aBld (tpl Tryd.prog 41) (tzc Tryd.prog 41) ps K := aBuild_eq (by rw [pl41]; rfl) ps K
theorem ni41 : tni Tryd.prog 41 = true := by kernel_rfl
theorem ta41 : tas Tryd.prog 41 = some (.agg [(.int .i64 0), (.int .i64 0), (.int .i64 0), (.str ⟨#[]⟩), (.sl [] .full)]) := by kernel_rfl
theorem sz42 : tsz Tryd.prog 42 = some 10 := by kernel_rfl
theorem ag42 : tag Tryd.prog 42 = some (some 10) := by kernel_rfl
theorem zc42 : tzc Tryd.prog 42 = some [(.str ⟨#[]⟩), (.sl [] .full), (.sl [] .full), (.sl [] .full), (.int .i64 0), (.int .i64 0), (.int .i64 0), (.str ⟨#[]⟩), (.sl [] .full), (.int .i64 0)] := by kernel_rfl
theorem sr42 : tsrc Tryd.prog 42 = true := by kernel_rfl
theorem fd42_0 : tfd Tryd.prog 42 0 = some (0, 9) := by kernel_rfl
theorem fo42_0 : tfo Tryd.prog 42 0 = some 0 := by kernel_rfl
theorem fd42_1 : tfd Tryd.prog 42 1 = some (1, 37) := by kernel_rfl
theorem fo42_1 : tfo Tryd.prog 42 1 = some 1 := by kernel_rfl
theorem fd42_2 : tfd Tryd.prog 42 2 = some (2, 37) := by kernel_rfl
theorem fo42_2 : tfo Tryd.prog 42 2 = some 2 := by kernel_rfl
theorem fd42_3 : tfd Tryd.prog 42 3 = some (3, 38) := by kernel_rfl
theorem fo42_3 : tfo Tryd.prog 42 3 = some 3 := by kernel_rfl
theorem fd42_4 : tfd Tryd.prog 42 4 = some (4, 41) := by kernel_rfl
theorem fo42_4 : tfo Tryd.prog 42 4 = some 4 := by kernel_rfl
theorem fd42_5 : tfd Tryd.prog 42 5 = some (9, 3) := by kernel_rfl
theorem fo42_5 : tfo Tryd.prog 42 5 = some 9 := by kernel_rfl
theorem pl42 : tpl Tryd.prog 42 = some [(0, 1), (1, 1), (2, 1), (3, 1), (4, 5), (9, 1)] := by kernel_rfl
theorem bd42 (ps : List (Nat × AV)) (K : AV → Prop) : aBuild Tryd.prog 42 ps K = aBld (tpl Tryd.prog 42) (tzc Tryd.prog 42) ps K := aBuild_eq (by rw [pl42]; rfl) ps K
theorem sz43 : tsz Tryd.prog 43 = some 10 := by kernel_rfl
theorem ag43 : tag Tryd.prog 43 = some (some 10) := by kernel_rfl
theorem zc43 : tzc Tryd.prog 43 = some [(.str ⟨#[]⟩), (.sl [] .full), (.sl [] .full), (.sl [] .full), (.int .i64 0), (.int .i64 0), (.int .i64 0), (.str ⟨#[]⟩), (.sl [] .full), (.int .i64 0)] := by kernel_rfl
theorem sr43 : tsrc Tryd.prog 43 = true := by kernel_rfl
theorem fd43_0 : tfd Tryd.prog 43 0 = some (0, 9) := by kernel_rfl
theorem fo43_0 : tfo Tryd.prog 43 0 = some 0 := by kernel_rfl
theorem fd43_1 : tfd Tryd.prog 43 1 = some (1, 37) := by kernel_rfl
theorem fo43_1 : tfo Tryd.prog 43 1 = some 1 := by kernel_rfl
theorem fd43_2 : tfd Tryd.prog 43 2 = some (2, 37) := by kernel_rfl
theorem fo43_2 : tfo Tryd.prog 43 2 = some 2 := by kernel_rfl
theorem fd43_3 : tfd Tryd.prog 43 3 = some (3, 38) := by kernel_rfl
theorem fo43_3 : tfo Tryd.prog 43 3 = some 3 := by kernel_rfl
theorem fd43_4 : tfd Tryd.prog 43 4 = some (4, 41) := by kernel_rfl
theorem fo43_4 : tfo Tryd.prog 43 4 = some 4 := by kernel_rfl
theorem fd43_5 : tfd Tryd.prog 43 5 = some (9, 3) := by kernel_rfl
theorem fo43_5 : tfo Tryd.prog 43 5 = some 9 := by kernel_rfl
theorem pl43 : tpl Tryd.prog 43 = some [(0, 1), (1, 1), (2, 1), (3, 1), (4, 5), (9, 1)] := by kernel_rfl
theorem bd43 (ps : List (Nat × AV)) (K : AV → Prop) : aBuild Tryd.prog 43 ps K = aBld (tpl Tryd.prog 43) (tzc Tryd.prog 43) ps K := aBuild_eq (by rw [pl43]; rfl) ps K
theorem ni43 : tni Tryd.prog 43 = true := by kernel_rfl
theorem ta43 : tas Tryd.prog 43 = some (.agg [(.str ⟨#[]⟩), (.sl [] .full), (.sl [] .full), (.sl [] .full), (.int .i64 0), (.int .i64 0), (.int .i64 0), (.str ⟨#[]⟩), (.sl [] .full), (.int .i64 0)]) := by kernel_rfl
theorem sz44 : tsz Tryd.prog 44 = some 13 := by kernel_rfl
theorem ag44 : tag Tryd.prog 44 = some (some 13) := by kernel_rfl
theorem zc44 : tzc Tryd.prog 44 = some [(.int .i64 0), (.int .i64 0), (.int .i64 0), (.str ⟨#[]⟩), (.sl [] .full), (.sl [] .full), (.sl [] .full), (.int .i64 0), (.int .i64 0), (.int .i64 0), (.str ⟨#[]⟩), (.sl [] .full), (.int .i64 0)] := by kernel_rfl
theorem sr44 : tsrc Tryd.prog 44 = true := by kernel_rfl
theorem fd44_0 : tfd Tryd.prog 44 0 = some (0, 3) := by kernel_rfl
theorem fo44_0 : tfo Tryd.prog 44 0 = some 0 := by kernel_rfl
theorem fd44_1 : tfd Tryd.prog 44 1 = some (1, 3) := by kernel_rfl
theorem fo44_1 : tfo Tryd.prog 44 1 = some 1 := by kernel_rfl
theorem fd44_2 : tfd Tryd.prog 44 2 = some (2, 3) := by kernel_rfl
theorem fo44_2 : tfo Tryd.prog 44 2 = some 2 := by kernel_rfl
theorem fd44_3 : tfd Tryd.prog 44 3 = some (3, 43) := by kernel_rfl
theorem fo44_3 : tfo Tryd.prog 44 3 = some 3 := by kernel_rfl
theorem pl44 : tpl Tryd.prog 44 = some [(0, 1), (1, 1), (2, 1), (3, 10)] := by kernel_rfl
theorem bd44 (ps : List (Nat × AV)) (K : AV → Prop) : aBuild Tryd.prog 44 ps K = aBld (tpl Tryd.prog 44) (tzc Tryd.prog 44) ps K := aBuild_eq (by rw [pl44]; rfl) ps K
theorem sz45 : tsz Tryd.prog 45 = some 13 := by kernel_rfl
theorem ag45 : tag Tryd.prog 45 = some (some 13) := by kernel_rfl
theorem zc45 : tzc Tryd.prog 45 = some [(.int .i64 0), (.int .i64 0), (.int .i64 0), (.str ⟨#[]⟩), (.sl [] .full), (.sl [] .full), (.sl [] .full), (.int .i64 0), (.int .i64 0), (.int .i64 0), (.str ⟨#[]⟩), (.sl [] .full), (.int .i64 0)] := by kernel_rfl
theorem sr45 : tsrc Tryd.prog 45 = true := by kernel_rfl
theorem fd45_0 : tfd Tryd.prog 45 0 = some (0, 3) := by kernel_rfl
theorem fo45_0 : tfo Tryd.prog 45 0 = some 0 := by kernel_rfl
theorem fd45_1 : tfd Tryd.prog 45 1 = some (1, 3) := by kernel_rfl
theorem fo45_1 : tfo Tryd.prog 45 1 = some 1 := by kernel_rfl
theorem fd45_2 : tfd Tryd.prog 45 2 = some (2, 3) := by kernel_rfl
theorem fo45_2 : tfo Tryd.prog 45 2 = some 2 := by kernel_rfl
theorem fd45_3 : tfd Tryd.prog 45 3 = some (3, 43) := by kernel_rfl
theorem fo45_3 : tfo Tryd.prog 45 3 = some 3 := by kernel_rfl
theorem pl45 : tpl Tryd.prog 45 = some [(0, 1), (1, 1), (2, 1), (3, 10)] := by kernel_rfl
theorem bd45 (ps : List (Nat × AV)) (K : AV → Prop) : aBuild Tryd.prog 45 ps K = aBld (tpl Tryd.prog 45) (tzc Tryd.prog 45) ps K := aBuild_eq (by rw [pl45]; rfl) ps K
theorem ni45 : tni Tryd.prog 45 = true := by kernel_rfl
theorem ta45 : tas Tryd.prog 45 = some (.agg [(.int .i64 0), (.int .i64 0), (.int .i64 0), (.str ⟨#[]⟩), (.sl [] .full), (.sl [] .full), (.sl [] .full), (.int .i64 0), (.int .i64 0), (.int .i64 0), (.str ⟨#[]⟩), (.sl [] .full), (.int .i64 0)]) := by kernel_rfl
theorem sz46 : tsz Tryd.prog 46 = some 1 := by kernel_rfl
theorem ag46 : tag Tryd.prog 46 = some none := by kernel_rfl
theorem zc46 : tzc Tryd.prog 46 = some [.nilFunc] := by kernel_rfl
theorem sr46 : tsrc Tryd.prog 46 = true := by kernel_rfl
theorem sz48 : tsz Tryd.prog 48 = some 1 := by kernel_rfl
theorem ag48 : tag Tryd.prog 48 = some none := by kernel_rfl
theorem zc48 : tzc Tryd.prog 48 = some [.nilFunc] := by kernel_rfl
theorem sr48 : tsrc Tryd.prog 48 = true := by kernel_rfl
theorem sz49 : tsz Tryd.prog 49 = some 1 := by kernel_rfl
theorem ag49 : tag Tryd.prog 49 = some none := by kernel_rfl
theorem zc49 : tzc Tryd.prog 49 = some [.nilFunc] := by kernel_rfl
theorem sr49 : tsrc Tryd.prog 49 = true := by kernel_rfl
theorem sz50 : tsz Tryd.prog 50 = some 1 := by kernel_rfl
theorem ag50 : tag Tryd.prog 50 = some none := by kernel_rfl
theorem zc50 : tzc Tryd.prog 50 = some [.nilFunc] := by kernel_rfl
theorem sr50 : tsrc Tryd.prog 50 = true := by kernel_rfl
theorem sz51 : tsz Tryd.prog 51 = some 1 := by kernel_rfl
theorem ag51 : tag Tryd.prog 51 = some none := by kernel_rfl
theorem zc51 : tzc Tryd.prog 51 = some [.nilFunc] := by kernel_rfl
theorem sr51 : tsrc Tryd.prog 51 = true := by kernel_rfl
theorem sz52 : tsz Tryd.prog 52 = some 1 := by kernel_rfl
theorem ag52 : tag Tryd.prog 52 = some none := by kernel_rfl
theorem zc52 : tzc Tryd.prog 52 = some [.nilFunc] := by kernel_rfl
theorem sr52 : tsrc Tryd.prog 52 = true := by kernel_rfl
theorem sz53 : tsz Tryd.prog 53 = some 1 := by kernel_rfl
theorem ag53 : tag Tryd.prog 53 = some none := by kernel_rfl
theorem zc53 : tzc Tryd.prog 53 = some [.nilFunc] := by kernel_rfl
theorem sr53 : tsrc Tryd.prog 53 = true := by kernel_rfl
theorem sz54 : tsz Tryd.prog 54 = some 1 := by kernel_rfl
theorem ag54 : tag Tryd.prog 54 = some none := by kernel_rfl
theorem zc54 : tzc Tryd.prog 54 = some [.nilFunc] := by kernel_rfl
theorem sr54 : tsrc Tryd.prog 54 = true := by kernel_rfl
theorem sz55 : tsz Tryd.prog 55 = some 1 := by kernel_rfl
theorem ag55 : tag Tryd.prog 55 = some none := by kernel_rfl
theorem zc55 : tzc Tryd.prog 55 = some [.nilFunc] := by kernel_rfl
theorem sr55 : tsrc Tryd.prog 55 = true := by kernel_rfl
theorem sz56 : tsz Tryd.prog 56 = some 1 := by kernel_rfl
theorem ag56 : tag Tryd.prog 56 = some none := by kernel_rfl
theorem zc56 : tzc Tryd.prog 56 = some [.nilFunc] := by kernel_rfl
theorem sr56 : tsrc Tryd.prog 56 = true := by kernel_rfl
theorem sz57 : tsz Tryd.prog 57 = some 1 := by kernel_rfl
theorem ag57 : tag Tryd.prog 57 = some none := by kernel_rfl
theorem zc57 : tzc Tryd.prog 57 = some [.nilFunc] := by kernel_rfl
theorem sr57 : tsrc Tryd.prog 57 = true := by kernel_rfl
theorem sz58 : tsz Tryd.prog 58 = some 1 := by kernel_rfl
theorem ag58 : tag Tryd.prog 58 = some none := by kernel_rfl
theorem zc58 : tzc Tryd.prog 58 = some [.nilFunc] := by kernel_rfl
theorem sr58 : tsrc Tryd.prog 58 = true := by kernel_rfl
theorem sz59 : tsz Tryd.prog 59 = some 1 := by kernel_rfl
theorem ag59 : tag Tryd.prog 59 = some none := by kernel_rfl
theorem zc59 : tzc Tryd.prog 59 = some [.nilFunc] := by kernel_rfl
theorem sr59 : tsrc Tryd.prog 59 = true := by kernel_rfl
theorem sz60 : tsz Tryd.prog 60 = some 1 := by kernel_rfl
theorem ag60 : tag Tryd.prog 60 = some none := by kernel_rfl
theorem zc60 : tzc Tryd.prog 60 = some [.nilFunc] := by kernel_rfl
theorem sr60 : tsrc Tryd.prog 60 = true := by kernel_rfl
theorem sz61 : tsz Tryd.prog 61 = some 1 := by kernel_rfl
theorem ag61 : tag Tryd.prog 61 = some none := by kernel_rfl
theorem zc61 : tzc Tryd.prog 61 = some [.nilFunc] := by kernel_rfl
theorem sr61 : tsrc Tryd.prog 61 = true := by kernel_rfl
theorem sz62 : tsz Tryd.prog 62 = some 1 := by kernel_rfl
theorem ag62 : tag Tryd.prog 62 = some none := by kernel_rfl
theorem zc62 : tzc Tryd.prog 62 = some [.nilFunc] := by kernel_rfl
theorem sr62 : tsrc Tryd.prog 62 = true := by kernel_rfl
theorem sz63 : tsz Tryd.prog 63 = some 1 := by kernel_rfl
theorem ag63 : tag Tryd.prog 63 = some none := by kernel_rfl
theorem zc63 : tzc Tryd.prog 63 = some [.nilFunc] := by kernel_rfl
theorem sr63 : tsrc Tryd.prog 63 = true := by kernel_rfl
theorem sz64 : tsz Tryd.prog 64 = some 1 := by kernel_rfl
theorem ag64 : tag Tryd.prog 64 = some none := by kernel_rfl
theorem zc64 : tzc Tryd.prog 64 = some [.nilFunc] := by kernel_rfl
theorem sr64 : tsrc Tryd.prog 64 = true := by kernel_rfl
theorem sz65 : tsz Tryd.prog 65 = some 1 := by kernel_rfl
theorem ag65 : tag Tryd.prog 65 = some none := by kernel_rfl
theorem zc65 : tzc Tryd.prog 65 = some [(.map none)] := by kernel_rfl
theorem sr65 : tsrc Tryd.prog 65 = true := by kernel_rfl
theorem ln65 : tlen Tryd.prog 65 = some .map := by kernel_rfl
theorem mk65 : tmk Tryd.prog 65 = some (true, .nilFunc) := by kernel_rfl
theorem sz66 : tsz Tryd.prog 66 = some 1 := by kernel_rfl
theorem ag66 : tag Tryd.prog 66 = some none := by kernel_rfl
theorem zc66 : tzc Tryd.prog 66 = some [.nilFunc] := by kernel_rfl
theorem sr66 : tsrc Tryd.prog 66 = true := by kernel_rfl
theorem sz67 : tsz Tryd.prog 67 = some 1 := by kernel_rfl
theorem ag67 : tag Tryd.prog 67 = some none := by kernel_rfl
theorem zc67 : tzc Tryd.prog 67 = some [.nilFunc] := by kernel_rfl
theorem sr67 : tsrc Tryd.prog 67 = true := by kernel_rfl
theorem sz68 : tsz Tryd.prog 68 = some 1 := by kernel_rfl
theorem ag68 : tag Tryd.prog 68 = some none := by kernel_rfl
theorem zc68 : tzc Tryd.prog 68 = some [.nilFunc] := by kernel_rfl
theorem sr68 : tsrc Tryd.prog 68 = true := by kernel_rfl
theorem sz69 : tsz Tryd.prog 69 = some 8 := by kernel_rfl
theorem ag69 : tag Tryd.prog 69 = some (some 8) := by kernel_rfl
theorem zc69 : tzc Tryd.prog 69 = some [(.str ⟨#[]⟩), (.int .i64 0), (.int .i64 0), (.int .i64 0), (.int .i64 0), (.int .i64 0), (.str ⟨#[]⟩), (.sl [] .full)] := by kernel_rfl
theorem sr69 : tsrc Tryd.prog 69 = true := by kernel_rfl
theorem fd69_0 : tfd Tryd.prog 69 0 = some (0, 9) := by kernel_rfl
theorem fo69_0 : tfo Tryd.prog 69 0 = some 0 := by kernel_rfl
theorem fd69_1 : tfd Tryd.prog 69 1 = some (1, 3) := by kernel_rfl
theorem fo69_1 : tfo Tryd.prog 69 1 = some 1 := by kernel_rfl
theorem fd69_2 : tfd Tryd.prog 69 2 = some (2, 3) := by kernel_rfl
theorem fo69_2 : tfo Tryd.prog 69 2 = some 2 := by kernel_rfl
theorem fd69_3 : tfd Tryd.prog 69 3 = some (3, 41) := by kernel_rfl
theorem fo69_3 : tfo Tryd.prog 69 3 = some 3 := by kernel_rfl
theorem pl69 : tpl Tryd.prog 69 = some [(0, 1), (1, 1), (2, 1), (3, 5)] := by kernel_rfl
theorem bd69 (ps : List (Nat × AV)) (K : AV → Prop) : aBuild Tryd.prog 69 ps K = aBld (tpl Tryd.prog 69) (tzc Tryd.prog 69) ps K := aBuild_eq (by rw [pl69]; rfl) ps K
theorem sz70 : tsz Tryd.prog 70 = some 8 := by kernel_rfl
theorem ag70 : tag Tryd.prog 70 = some (some 8) := by kernel_rfl
theorem zc70 : tzc Tryd.prog 70 = some [(.str ⟨#[]⟩), (.int .i64 0), (.int .i64 0), (.int .i64 0), (.int .i64 0), (.int .i64 0), (.str ⟨#[]⟩), (.sl [] .full)] := by kernel_rfl
theorem sr70 : tsrc Tryd.prog 70 = true := by kernel_rfl
theorem fd70_0 : tfd Tryd.prog 70 0 = some (0, 9) := by kernel_rfl
theorem fo70_0 : tfo Tryd.prog 70 0 = some 0 := by kernel_rfl
theorem fd70_1 : tfd Tryd.prog 70 1 = some (1, 3) := by kernel_rfl
theorem fo70_1 : tfo Tryd.prog 70 1 = some 1 := by kernel_rfl
theorem fd70_2 : tfd Tryd.prog 70 2 = some (2, 3) := by kernel_rfl
theorem fo70_2 : tfo Tryd.prog 70 2 = some 2 := by kernel_rfl
theorem fd70_3 : tfd Tryd.prog 70 3 = some (3, 41) := by kernel_rfl
theorem fo70_3 : tfo Tryd.prog 70 3 = some 3 := by kernel_rfl
theorem pl70 : tpl Tryd.prog 70 = some [(0, 1), (1, 1), (2, 1), (3, 5)] := by kernel_rfl
theorem bd70 (ps : List (Nat × AV)) (K : AV → Prop) : aBuild Tryd.prog 70 ps K = aBld (tpl Tryd.prog 70) (tzc Tryd.prog 70) ps K := aBuild_eq (by rw [pl70]; rfl) ps K
theorem ni70 : tni Tryd.prog 70 = true := by kernel_rfl
theorem ta70 : tas Tryd.prog 70 = some (.agg [(.str ⟨#[]⟩), (.int .i64 0), (.int .i64 0), (.int .i64 0), (.int .i64 0), (.int .i64 0), (.str ⟨#[]⟩), (.sl [] .full)]) := by kernel_rfl
theorem sz72 : tsz Tryd.prog 72 = some 1 := by kernel_rfl
theorem ag72 : tag Tryd.prog 72 = some none := by kernel_rfl
theorem zc72 : tzc Tryd.prog 72 = some [.nilFunc] := by kernel_rfl
theorem sr72 : tsrc Tryd.prog 72 = true := by kernel_rfl
theorem sz73 : tsz Tryd.prog 73 = some 1 := by kernel_rfl
theorem ag73 : tag Tryd.prog 73 = some none := by kernel_rfl
theorem zc73 : tzc Tryd.prog 73 = some [.nilFunc] := by kernel_rfl
theorem sr73 : tsrc Tryd.prog 73 = true := by kernel_rfl
theorem sz74 : tsz Tryd.prog 74 = some 1 := by kernel_rfl
theorem ag74 : tag Tryd.prog 74 = some none := by kernel_rfl
theorem zc74 : tzc Tryd.prog 74 = some [.nilFunc] := by kernel_rfl
theorem sr74 : tsrc Tryd.prog 74 = true := by kernel_rfl
theorem sz75 : tsz Tryd.prog 75 = some 1 := by kernel_rfl
theorem ag75 : tag Tryd.prog 75 = some none := by kernel_rfl
theorem zc75 : tzc Tryd.prog 75 = some [.nilFunc] := by kernel_rfl
theorem sr75 : tsrc Tryd.prog 75 = true := by kernel_rfl
theorem sz76 : tsz Tryd.prog 76 = some 1 := by kernel_rfl
theorem ag76 : tag Tryd.prog 76 = some none := by kernel_rfl
theorem zc76 : tzc Tryd.prog 76 = some [(.map none)] := by kernel_rfl
theorem sr76 : tsrc Tryd.prog 76 = true := by kernel_rfl
theorem ln76 : tlen Tryd.prog 76 = some .map := by kernel_rfl
theorem mk76 : tmk Tryd.prog 76 = some (true, (.agg [(.int .i64 0), (.int .i64 0), (.int .i64 0), (.str ⟨#[]⟩), (.sl [] .full), (.sl [] .full), (.sl [] .full), (.int .i64 0), (.int .i64 0), (.int .i64 0), (.str ⟨#[]⟩), (.sl [] .full), (.int .i64 0)])) := by kernel_rfl
theorem sz77 : tsz Tryd.prog 77 = some 1 := by kernel_rfl
theorem ag77 : tag Tryd.prog 77 = some none := by kernel_rfl
theorem zc77 : tzc Tryd.prog 77 = some [.nilFunc] := by kernel_rfl
theorem sr77 : tsrc Tryd.prog 77 = true := by kernel_rfl
theorem sz78 : tsz Tryd.prog 78 = some 1 := by kernel_rfl
theorem ag78 : tag Tryd.prog 78 = some none := by kernel_rfl
theorem zc78 : tzc Tryd.prog 78 = some [.nilFunc] := by kernel_rfl
theorem sr78 : tsrc Tryd.prog 78 = true := by kernel_rfl
theorem sz79 : tsz Tryd.prog 79 = some 1 := by kernel_rfl
theorem ag79 : tag Tryd.prog 79 = some none := by kernel_rfl
theorem zc79 : tzc Tryd.prog 79 = some [.nilFunc] := by kernel_rfl
theorem sr79 : tsrc Tryd.prog 79 = true := by kernel_rfl
theorem sz80 : tsz Tryd.prog 80 = some 1 := by kernel_rfl
theorem ag80 : tag Tryd.prog 80 = some none := by kernel_rfl
theorem zc80 : tzc Tryd.prog 80 = some [.nilFunc] := by kernel_rfl
theorem sr80 : tsrc Tryd.prog 80 = true := by kernel_rfl
theorem sz81 : tsz Tryd.prog 81 = some 1 := by kernel_rfl
theorem ag81 : tag Tryd.prog 81 = some none := by kernel_rfl
theorem zc81 : tzc Tryd.prog 81 = some [.nilFunc] := by kernel_rfl
theorem sr81 : tsrc Tryd.prog 81 = true := by kernel_rfl
theorem sz82 : tsz Tryd.prog 82 = some 1 := by kernel_rfl
theorem ag82 : tag Tryd.prog 82 = some none := by kernel_rfl
theorem zc82 : tzc Tryd.prog 82 = some [.nilFunc] := by kernel_rfl
theorem sr82 : tsrc Tryd.prog 82 = true := by kernel_rfl
theorem sz83 : tsz Tryd.prog 83 = some 1 := by kernel_rfl
theorem ag83 : tag Tryd.prog 83 = some none := by kernel_rfl
theorem zc83 : tzc Tryd.prog 83 = some [(.int .u64 0)] := by kernel_rfl
theorem sr83 : tsrc Tryd.prog 83 = false := by kernel_rfl
theorem sz84 : tsz Tryd.prog 84 = some 1 := by kernel_rfl
theorem ag84 : tag Tryd.prog 84 = some none := by kernel_rfl
theorem zc84 : tzc Tryd.prog 84 = some [.nilFunc] := by kernel_rfl
theorem sr84 : tsrc Tryd.prog 84 = true := by kernel_rfl
theorem sz86 : tsz Tryd.prog 86 = some 1 := by kernel_rfl
theorem ag86 : tag Tryd.prog 86 = some none := by kernel_rfl
theorem zc86 : tzc Tryd.prog 86 = some [.nilFunc] := by kernel_rfl
theorem sr86 : tsrc Tryd.prog 86 = true := by kernel_rfl
theorem sz87 : tsz Tryd.prog 87 = some 1 := by kernel_rfl
theorem ag87 : tag Tryd.prog 87 = some none := by kernel_rfl
theorem zc87 : tzc Tryd.prog 87 = some [.nilFunc] := by kernel_rfl
theorem sr87 : tsrc Tryd.prog 87 = true := by kernel_rfl
theorem sz88 : tsz Tryd.prog 88 = some 1 := by kernel_rfl
theorem ag88 : tag Tryd.prog 88 = some none := by kernel_rfl
theorem zc88 : tzc Tryd.prog 88 = some [.nilFunc] := by kernel_rfl
theorem sr88 : tsrc Tryd.prog 88 = true := by kernel_rfl
theorem sz89 : tsz Tryd.prog 89 = some 1 := by kernel_rfl
theorem ag89 : tag Tryd.prog 89 = some none := by kernel_rfl
theorem zc89 : tzc Tryd.prog 89 = some [(.int .i64 0)] := by kernel_rfl
theorem sr89 : tsrc Tryd.prog 89 = false := by kernel_rfl
theorem ni89 : tni Tryd.prog 89 = true := by kernel_rfl
theorem ta89 : tas Tryd.prog 89 = some (.int .i64 0) := by kernel_rfl
theorem sz91 : tsz Tryd.prog 91 = some 1 := by kernel_rfl
theorem ag91 : tag Tryd.prog 91 = some none := by kernel_rfl
theorem zc91 : tzc Tryd.prog 91 = some [.nilFunc] := by kernel_rfl
theorem sr91 : tsrc Tryd.prog 91 = true := by kernel_rfl
theorem sz92 : tsz Tryd.prog 92 = some 1 := by kernel_rfl
theorem ag92 : tag Tryd.prog 92 = some none := by kernel_rfl
theorem zc92 : tzc Tryd.prog 92 = some [.nilFunc] := by kernel_rfl
theorem sr92 : tsrc Tryd.prog 92 = true := by kernel_rfl
theorem sz93 : tsz Tryd.prog 93 = some 1 := by kernel_rfl
theorem ag93 : tag Tryd.prog 93 = some none := by kernel_rfl
theorem zc93 : tzc Tryd.prog 93 = some [.nilFunc] := by kernel_rfl
theorem sr93 : tsrc Tryd.prog 93 = true := by kernel_rfl
theorem sz94 : tsz Tryd.prog 94 = some 1 := by kernel_rfl
theorem ag94 : tag Tryd.prog 94 = some none := by kernel_rfl
theorem zc94 : tzc Tryd.prog 94 = some [.nilFunc] := by kernel_rfl
theorem sr94 : tsrc Tryd.prog 94 = true := by kernel_rfl
theorem sz96 : tsz Tryd.prog 96 = some 1 := by kernel_rfl
theorem ag96 : tag Tryd.prog 96 = some none := by kernel_rfl
theorem zc96 : tzc Tryd.prog 96 = some [.nilFunc] := by kernel_rfl
theorem sr96 : tsrc Tryd.prog 96 = true := by kernel_rfl
theorem sz97 : tsz Tryd.prog 97 = some 1 := by kernel_rfl
theorem ag97 : tag Tryd.prog 97 = some none := by kernel_rfl
theorem zc97 : tzc Tryd.prog 97 = some [.nilFunc] := by kernel_rfl
theorem sr97 : tsrc Tryd.prog 97 = true := by kernel_rfl
theorem sz98 : tsz Tryd.prog 98 = some 1 := by kernel_rfl
theorem ag98 : tag Tryd.prog 98 = some none := by kernel_rfl
theorem zc98 : tzc Tryd.prog 98 = some [(.int .u32 0)] := by kernel_rfl
theorem sr98 : tsrc Tryd.prog 98 = false := by kernel_rfl
theorem sz99 : tsz Tryd.prog 99 = some 1 := by kernel_rfl
theorem ag99 : tag Tryd.prog 99 = some none := by kernel_rfl
theorem zc99 : tzc Tryd.prog 99 = some [.nilFunc] := by kernel_rfl
theorem sr99 : tsrc Tryd.prog 99 = true := by kernel_rfl
theorem sz100 : tsz Tryd.prog 100 = some 1 := by kernel_rfl
theorem ag100 : tag Tryd.prog 100 = some none := by kernel_rfl
theorem zc100 : tzc Tryd.prog 100 = some [(.int .u64 0)] := by kernel_rfl
theorem sr100 : tsrc Tryd.prog 100 = false := by kernel_rfl
theorem sz101 : tsz Tryd.prog 101 = some 1 := by kernel_rfl
theorem ag101 : tag Tryd.prog 101 = some none := by kernel_rfl
theorem zc101 : tzc Tryd.prog 101 = some [.nilFunc] := by kernel_rfl
theorem sr101 : tsrc Tryd.prog 101 = true := by kernel_rfl
theorem sz102 : tsz Tryd.prog 102 = some 1 := by kernel_rfl
theorem ag102 : tag Tryd.prog 102 = some none := by kernel_rfl
theorem zc102 : tzc Tryd.prog 102 = some [.nilFunc] := by kernel_rfl
theorem sr102 : tsrc Tryd.prog 102 = true := by kernel_rfl
theorem sz103 : tsz Tryd.prog 103 = some 1 := by kernel_rfl
theorem ag103 : tag Tryd.prog 103 = some none := by kernel_rfl
theorem zc103 : tzc Tryd.prog 103 = some [.nilFunc] := by kernel_rfl
theorem sr103 : tsrc Tryd.prog 103 = true := by kernel_rfl
theorem sz104 : tsz Tryd.prog 104 = some 1 := by kernel_rfl
theorem ag104 : tag Tryd.prog 104 = some none := by kernel_rfl
theorem zc104 : tzc Tryd.prog 104 = some [.nilFunc] := by kernel_rfl
theorem sr104 : tsrc Tryd.prog 104 = true := by kernel_rfl
theorem sz105 : tsz Tryd.prog 105 = some 1 := by kernel_rfl
theorem ag105 : tag Tryd.prog 105 = some none := by kernel_rfl
theorem zc105 : tzc Tryd.prog 105 = some [.nilFunc] := by kernel_rfl
theorem sr105 : tsrc Tryd.prog 105 = true := by kernel_rfl
theorem sz106 : tsz Tryd.prog 106 = some 1 := by kernel_rfl
theorem ag106 : tag Tryd.prog 106 = some none := by kernel_rfl
theorem zc106 : tzc Tryd.prog 106 = some [.nilFunc] := by kernel_rfl
theorem sr106 : tsrc Tryd.prog 106 = true := by kernel_rfl
theorem sz107 : tsz Tryd.prog 107 = some 6 := by kernel_rfl
theorem ag107 : tag Tryd.prog 107 = some (some 6) := by kernel_rfl
theorem zc107 : tzc Tryd.prog 107 = some [(.int .i64 0), (.int .i64 0), (.int .i64 0), (.str ⟨#[]⟩), (.sl [] .full), (.int .i64 0)] := by kernel_rfl
theorem sr107 : tsrc Tryd.prog 107 = true := by kernel_rfl
theorem fd107_0 : tfd Tryd.prog 107 0 = some (0, 41) := by kernel_rfl
theorem fo107_0 : tfo Tryd.prog 107 0 = some 0 := by kernel_rfl
theorem fd107_1 : tfd Tryd.prog 107 1 = some (5, 3) := by kernel_rfl
theorem fo107_1 : tfo Tryd.prog 107 1 = some 5 := by kernel_rfl
theorem pl107 : tpl Tryd.prog 107 = some [(0, 5), (5, 1)] := by kernel_rfl
theorem bd107 (ps : List (Nat × AV)) (K : AV → Prop) : aBuild Tryd.prog 107 ps K = aBld (tpl Tryd.prog 107) (tzc Tryd.prog 107) ps K := aBuild_eq (by rw [pl107]; rfl) ps K
theorem sz108 : tsz Tryd.prog 108 = some 6 := by kernel_rfl
theorem ag108 : tag Tryd.prog 108 = some (some 6) := by kernel_rfl
theorem zc108 : tzc Tryd.prog 108 = some [(.int .i64 0), (.int .i64 0), (.int .i64 0), (.str ⟨#[]⟩), (.sl [] .full), (.int .i64 0)] := by kernel_rfl
theorem sr108 : tsrc Tryd.prog 108 = true := by kernel_rfl
theorem fd108_0 : tfd Tryd.prog 108 0 = some (0, 41) := by kernel_rfl
theorem fo108_0 : tfo Tryd.prog 108 0 = some 0 := by kernel_rfl
theorem fd108_1 : tfd Tryd.prog 108 1 = some (5, 3) := by kernel_rfl
theorem fo108_1 : tfo Tryd.prog 108 1 = some 5 := by kernel_rfl
theorem pl108 : tpl Tryd.prog 108 = some [(0, 5), (5, 1)] := by kernel_rfl
theorem bd108 (ps : List (Nat × AV)) (K : AV → Prop) : aBuild Tryd.prog 108 ps K = aBld (tpl Tryd.prog 108) (tzc Tryd.prog 108) ps K := aBuild_eq (by rw [pl108]; rfl) ps K
theorem ni108 : tni Tryd.prog 108 = true := by kernel_rfl
theorem ta108 : tas Tryd.prog 108 = some (.agg [(.int .i64 0), (.int .i64 0), (.int .i64 0), (.str ⟨#[]⟩), (.sl [] .full), (.int .i64 0)]) := by kernel_rfl
theorem sz109 : tsz Tryd.prog 109 = some 1 := by kernel_rfl
theorem ag109 : tag Tryd.prog 109 = some none := by kernel_rfl
theorem zc109 : tzc Tryd.prog 109 = some [.nilFunc] := by kernel_rfl
theorem sr109 : tsrc Tryd.prog 109 = true := by kernel_rfl
theorem sz110 : tsz Tryd.prog 110 = some 1 := by kernel_rfl
theorem ag110 : tag Tryd.prog 110 = some none := by kernel_rfl
theorem zc110 : tzc Tryd.prog 110 = some [.nilFunc] := by kernel_rfl
theorem sr110 : tsrc Tryd.prog 110 = true := by kernel_rfl
theorem sz111 : tsz Tryd.prog 111 = some 1 := by kernel_rfl
theorem ag111 : tag Tryd.prog 111 = some none := by kernel_rfl
theorem zc111 : tzc Tryd.prog 111 = some [(.int .u64 0)] := by kernel_rfl
theorem sr111 : tsrc Tryd.prog 111 = false := by kernel_rfl
theorem ni111 : tni Tryd.prog 111 = true := by kernel_rfl
theorem ta111 : tas Tryd.prog 111 = some (.int .u64 0) := by kernel_rfl
theorem sz112 : tsz Tryd.prog 112 = some 1 := by kernel_rfl
theorem ag112 : tag Tryd.prog 112 = some none := by kernel_rfl
theorem zc112 : tzc Tryd.prog 112 = some [.nilFunc] := by kernel_rfl
theorem sr112 : tsrc Tryd.prog 112 = true := by kernel_rfl
theorem sz113 : tsz Tryd.prog 113 = some 1 := by kernel_rfl
theorem ag113 : tag Tryd.prog 113 = some none := by kernel_rfl
theorem zc113 : tzc Tryd.prog 113 = some [.nilFunc] := by kernel_rfl
theorem sr113 : tsrc Tryd.prog 113 = true := by kernel_rfl
theorem sz114 : tsz Tryd.prog 114 = some 1 := by kernel_rfl
theorem ag114 : tag Tryd.prog 114 = some none := by kernel_rfl
theorem zc114 : tzc Tryd.prog 114 = some [.nilFunc] := by kernel_rfl
theorem sr114 : tsrc Tryd.prog 114 = true := by kernel_rfl
theorem sz115 : tsz Tryd.prog 115 = some 1 := by kernel_rfl
theorem ag115 : tag Tryd.prog 115 = some none := by kernel_rfl
theorem zc115 : tzc Tryd.prog 115 = some [(.ptr none)] := by kernel_rfl
theorem sr115 : tsrc Tryd.prog 115 = true := by kernel_rfl
theorem ni115 : tni Tryd.prog 115 = true := by kernel_rfl
theorem ta115 : tas Tryd.prog 115 = some (.ptr none) := by kernel_rfl
theorem sz116 : tsz Tryd.prog 116 = some 1 := by kernel_rfl
theorem ag116 : tag Tryd.prog 116 = some none := by kernel_rfl
theorem zc116 : tzc Tryd.prog 116 = some [.nilFunc] := by kernel_rfl
theorem sr116 : tsrc Tryd.prog 116 = true := by kernel_rfl
theorem sz117 : tsz Tryd.prog 117 = some 1 := by kernel_rfl
theorem ag117 : tag Tryd.prog 117 = some (some 1) := by kernel_rfl
theorem zc117 : tzc Tryd.prog 117 = some [(.int .i64 0)] := by kernel_rfl
theorem sr117 : tsrc Tryd.prog 117 = true := by kernel_rfl
theorem fd117_0 : tfd Tryd.prog 117 0 = some (0, 24) := by kernel_rfl
theorem fo117_0 : tfo Tryd.prog 117 0 = some 0 := by kernel_rfl
theorem pl117 : tpl Tryd.prog 117 = some [(0, 1)] := by kernel_rfl
theorem bd117 (ps : List (Nat × AV)) (K : AV → Prop) : aBuild Tryd.prog 117 ps K = aBld (tpl Tryd.prog 117) (tzc Tryd.prog 117) ps K := aBuild_eq (by rw [pl117]; rfl) ps K
theorem sz118 : tsz Tryd.prog 118 = some 1 := by kernel_rfl
theorem ag118 : tag Tryd.prog 118 = some (some 1) := by kernel_rfl
theorem zc118 : tzc Tryd.prog 118 = some [(.int .i64 0)] := by kernel_rfl
theorem sr118 : tsrc Tryd.prog 118 = true := by kernel_rfl
theorem fd118_0 : tfd Tryd.prog 118 0 = some (0, 24) := by kernel_rfl
theorem fo118_0 : tfo Tryd.prog 118 0 = some 0 := by kernel_rfl
theorem pl118 : tpl Tryd.prog 118 = some [(0, 1)] := by kernel_rfl
theorem bd118 (ps : List (Nat × AV)) (K : AV → Prop) : aBuild Tryd.prog 118 ps K = aBld (tpl Tryd.prog 118) (tzc Tryd.prog 118) ps K := aBuild_eq (by rw [pl118]; rfl) ps K
theorem es118 : teqS Tryd.prog 118 = some [(0, .int)] := by kernel_rfl
theorem ni118 : tni Tryd.prog 118 = true := by kernel_rfl
theorem ta118 : tas Tryd.prog 118 = some (.agg [(.int .i64 0)]) := by kernel_rfl
theorem sz120 : tsz Tryd.prog 120 = some 1 := by kernel_rfl
theorem ag120 : tag Tryd.prog 120 = some none := by kernel_rfl
theorem zc120 : tzc Tryd.prog 120 = some [.nilFunc] := by kernel_rfl
theorem sr120 : tsrc Tryd.prog 120 = true := by kernel_rfl
theorem sz121 : tsz Tryd.prog 121 = some 1 := by kernel_rfl
theorem ag121 : tag Tryd.prog 121 = some none := by kernel_rfl
theorem zc121 : tzc Tryd.prog 121 = some [.nilFunc] := by kernel_rfl
theorem sr121 : tsrc Tryd.prog 121 = true := by kernel_rfl
theorem sz122 : tsz Tryd.prog 122 = some 1 := by kernel_rfl
theorem ag122 : tag Tryd.prog 122 = some none := by kernel_rfl
theorem zc122 : tzc Tryd.prog 122 = some [.nilFunc] := by kernel_rfl
theorem sr122 : tsrc Tryd.prog 122 = true := by kernel_rfl
theorem sz123 : tsz Tryd.prog 123 = some 1 := by kernel_rfl
theorem ag123 : tag Tryd.prog 123 = some none := by kernel_rfl
theorem zc123 : tzc Tryd.prog 123 = some [.nilFunc] := by kernel_rfl
theorem sr123 : tsrc Tryd.prog 123 = true := by kernel_rfl
theorem sz124 : tsz Tryd.prog 124 = some 1 := by kernel_rfl
theorem ag124 : tag Tryd.prog 124 = some none := by kernel_rfl
theorem zc124 : tzc Tryd.prog 124 = some [.nilFunc] := by kernel_rfl
theorem sr124 : tsrc Tryd.prog 124 = true := by kernel_rfl
theorem sz125 : tsz Tryd.prog 125 = some 5 := by kernel_rfl
theorem ag125 : tag Tryd.prog 125 = some (some 5) := by kernel_rfl
theorem zc125 : tzc Tryd.prog 125 = some [.nilFunc, .nilFunc, .nilFunc, .nilFunc, .nilFunc] := by kernel_rfl
theorem sr125 : tsrc Tryd.prog 125 = true := by kernel_rfl
theorem es125 : teqS Tryd.prog 125 = none := by kernel_rfl
theorem el125 : tel Tryd.prog 125 = some (some 5, 1) := by kernel_rfl
theorem ln125 : tlen Tryd.prog 125 = some (.arr 5) := by kernel_rfl
theorem sz126 : tsz Tryd.prog 126 = some 1 := by kernel_rfl
theorem ag126 : tag Tryd.prog 126 = some none := by kernel_rfl
theorem zc126 : tzc Tryd.prog 126 = some [.nilFunc] := by kernel_rfl
theorem sr126 : tsrc Tryd.prog 126 = true := by kernel_rfl
theorem sz127 : tsz Tryd.prog 127 = some 1 := by kernel_rfl
theorem ag127 : tag Tryd.prog 127 = some none := by kernel_rfl
theorem zc127 : tzc Tryd.prog 127 = some [(.ptr none)] := by kernel_rfl
theorem sr127 : tsrc Tryd.prog 127 = true := by kernel_rfl
theorem ni127 : tni Tryd.prog 127 = true := by kernel_rfl
theorem ta127 : tas Tryd.prog 127 = some (.ptr none) := by kernel_rfl
theorem sz129 : tsz Tryd.prog 129 = some 1 := by kernel_rfl
theorem ag129 : tag Tryd.prog 129 = some none := by kernel_rfl
theorem zc129 : tzc Tryd.prog 129 = some [.nilFunc] := by kernel_rfl
theorem sr129 : tsrc Tryd.prog 129 = true := by kernel_rfl
theorem sz130 : tsz Tryd.prog 130 = some 1 := by kernel_rfl
theorem ag130 : tag Tryd.prog 130 = some none := by kernel_rfl
theorem zc130 : tzc Tryd.prog 130 = some [.nilFunc] := by kernel_rfl
theorem sr130 : tsrc Tryd.prog 130 = true := by kernel_rfl
theorem sz131 : tsz Tryd.prog 131 = some 1 := by kernel_rfl
theorem ag131 : tag Tryd.prog 131 = some none := by kernel_rfl
theorem zc131 : tzc Tryd.prog 131 = some [.nilFunc] := by kernel_rfl
theorem sr131 : tsrc Tryd.prog 131 = true := by kernel_rfl
theorem sz132 : tsz Tryd.prog 132 = some 1 := by kernel_rfl
theorem ag132 : tag Tryd.prog 132 = some none := by kernel_rfl
theorem zc132 : tzc Tryd.prog 132 = some [.nilFunc] := by kernel_rfl
theorem sr132 : tsrc Tryd.prog 132 = true := by kernel_rfl
theorem sz133 : tsz Tryd.prog 133 = some 4 := by kernel_rfl
theorem ag133 : tag Tryd.prog 133 = some (some 4) := by kernel_rfl
theorem zc133 : tzc Tryd.prog 133 = some [(.ptr none), (.ptr none), (.ptr none), (.str ⟨#[]⟩)] := by kernel_rfl
theorem sr133 : tsrc Tryd.prog 133 = true := by kernel_rfl
theorem fd133_0 : tfd Tryd.prog 133 0 = some (0, 17) := by kernel_rfl
theorem fo133_0 : tfo Tryd.prog 133 0 = some 0 := by kernel_rfl
theorem fd133_1 : tfd Tryd.prog 133 1 = some (1, 17) := by kernel_rfl
theorem fo133_1 : tfo Tryd.prog 133 1 = some 1 := by kernel_rfl
theorem fd133_2 : tfd Tryd.prog 133 2 = some (2, 17) := by kernel_rfl
theorem fo133_2 : tfo Tryd.prog 133 2 = some 2 := by kernel_rfl
theorem fd133_3 : tfd Tryd.prog 133 3 = some (3, 9) := by kernel_rfl
theorem fo133_3 : tfo Tryd.prog 133 3 = some 3 := by kernel_rfl
theorem pl133 : tpl Tryd.prog 133 = some [(0, 1), (1, 1), (2, 1), (3, 1)] := by kernel_rfl
theorem bd133 (ps : List (Nat × AV)) (K : AV → Prop) : aBuild Tryd.prog 133 ps K = aBld (tpl Tryd.prog 133) (tzc Tryd.prog 133) ps K := aBuild_eq (by rw [pl133]; rfl) ps K
theorem sz134 : tsz Tryd.prog 134 = some 4 := by kernel_rfl
theorem ag134 : tag Tryd.prog 134 = some (some 4) := by kernel_rfl
theorem zc134 : tzc Tryd.prog 134 = some [(.ptr none), (.ptr none), (.ptr none), (.str ⟨#[]⟩)] := by kernel_rfl
theorem sr134 : tsrc Tryd.prog 134 = true := by kernel_rfl
theorem fd134_0 : tfd Tryd.prog 134 0 = some (0, 17) := by kernel_rfl
theorem fo134_0 : tfo Tryd.prog 134 0 = some 0 := by kernel_rfl
theorem fd134_1 : tfd Tryd.prog 134 1 = some (1, 17) := by kernel_rfl
theorem fo134_1 : tfo Tryd.prog 134 1 = some 1 := by kernel_rfl
theorem fd134_2 : tfd Tryd.prog 134 2 = some (2, 17) := by kernel_rfl
theorem fo134_2 : tfo Tryd.prog 134 2 = some 2 := by kernel_rfl
theorem fd134_3 : tfd Tryd.prog 134 3 = some (3, 9) := by kernel_rfl
theorem fo134_3 : tfo Tryd.prog 134 3 = some 3 := by kernel_rfl
theorem pl134 : tpl Tryd.prog 134 = some [(0, 1), (1, 1), (2, 1), (3, 1)] := by kernel_rfl
theorem bd134 (ps : List (Nat × AV)) (K : AV → Prop) : aBuild Tryd.prog 134 ps K = aBld (tpl Tryd.prog 134) (tzc Tryd.prog 134) ps K := aBuild_eq (by rw [pl134]; rfl) ps K
theorem ni134 : tni Tryd.prog 134 = true := by kernel_rfl
theorem ta134 : tas Tryd.prog 134 = some (.agg [(.ptr none), (.ptr none), (.ptr none), (.str ⟨#[]⟩)]) := by kernel_rfl
theorem sz135 : tsz Tryd.prog 135 = some 0 := by kernel_rfl
theorem ag135 : tag Tryd.prog 135 = some (some 0) := by kernel_rfl
theorem zc135 : tzc Tryd.prog 135 = some [] := by kernel_rfl
theorem sr135 : tsrc Tryd.prog 135 = true := by kernel_rfl
theorem es135 : teqS Tryd.prog 135 = none := by kernel_rfl
theorem el135 : tel Tryd.prog 135 = some (some 0, 1) := by kernel_rfl
theorem ln135 : tlen Tryd.prog 135 = some (.arr 0) := by kernel_rfl
theorem sz136 : tsz Tryd.prog 136 = some 0 := by kernel_rfl
theorem ag136 : tag Tryd.prog 136 = some (some 0) := by kernel_rfl
theorem zc136 : tzc Tryd.prog 136 = some [] := by kernel_rfl
theorem sr136 : tsrc Tryd.prog 136 = true := by kernel_rfl
theorem fd136_0 : tfd Tryd.prog 136 0 = some (0, 135) := by kernel_rfl
theorem pl136 : tpl Tryd.prog 136 = some [(0, 0)] := by kernel_rfl
theorem bd136 (ps : List (Nat × AV)) (K : AV → Prop) : aBuild Tryd.prog 136 ps K = aBld (tpl Tryd.prog 136) (tzc Tryd.prog 136) ps K := aBuild_eq (by rw [pl136]; rfl) ps K
theorem sz137 : tsz Tryd.prog 137 = some 0 := by kernel_rfl
theorem ag137 : tag Tryd.prog 137 = some (some 0) := by kernel_rfl
theorem zc137 : tzc Tryd.prog 137 = some [] := by kernel_rfl
theorem sr137 : tsrc Tryd.prog 137 = true := by kernel_rfl
theorem fd137_0 : tfd Tryd.prog 137 0 = some (0, 135) := by kernel_rfl
theorem pl137 : tpl Tryd.prog 137 = some [(0, 0)] := by kernel_rfl
theorem bd137 (ps : List (Nat × AV)) (K : AV → Prop) : aBuild Tryd.prog 137 ps K = aBld (tpl Tryd.prog 137) (tzc Tryd.prog 137) ps K := aBuild_eq (by rw [pl137]; rfl) ps K
theorem ni137 : tni Tryd.prog 137 = true := by kernel_rfl
theorem ta137 : tas Tryd.prog 137 = some (.agg []) := by kernel_rfl
theorem sz138 : tsz Tryd.prog 138 = some 1 := by kernel_rfl
theorem ag138 : tag Tryd.prog 138 = some none := by kernel_rfl
theorem zc138 : tzc Tryd.prog 138 = some [.nilFunc] := by kernel_rfl
theorem sr138 : tsrc Tryd.prog 138 = true := by kernel_rfl
theorem sz139 : tsz Tryd.prog 139 = some 1 := by kernel_rfl
theorem ag139 : tag Tryd.prog 139 = some none := by kernel_rfl
theorem zc139 : tzc Tryd.prog 139 = some [(.int .u8 0)] := by kernel_rfl
theorem sr139 : tsrc Tryd.prog 139 = false := by kernel_rfl
theorem ni139 : tni Tryd.prog 139 = true := by kernel_rfl
theorem ta139 : tas Tryd.prog 139 = some (.int .u8 0) := by kernel_rfl
theorem sz140 : tsz Tryd.prog 140 = some 1 := by kernel_rfl
theorem ag140 : tag Tryd.prog 140 = some none := by kernel_rfl
theorem zc140 : tzc Tryd.prog 140 = some [(.int .u8 0)] := by kernel_rfl
theorem sr140 : tsrc Tryd.prog 140 = false := by kernel_rfl
theorem ni140 : tni Tryd.prog 140 = true := by kernel_rfl
theorem ta140 : tas Tryd.prog 140 = some (.int .u8 0) := by kernel_rfl
theorem sz141 : tsz Tryd.prog 141 = some 1 := by kernel_rfl
theorem ag141 : tag Tryd.prog 141 = some none := by kernel_rfl
theorem zc141 : tzc Tryd.prog 141 = some [.nilFunc] := by kernel_rfl
theorem sr141 : tsrc Tryd.prog 141 = true := by kernel_rfl
theorem sz142 : tsz Tryd.prog 142 = some 1 := by kernel_rfl
theorem ag142 : tag Tryd.prog 142 = some none := by kernel_rfl
theorem zc142 : tzc Tryd.prog 142 = some [(.ptr none)] := by kernel_rfl
theorem sr142 : tsrc Tryd.prog 142 = true := by kernel_rfl
theorem ni142 : tni Tryd.prog 142 = true := by kernel_rfl
theorem ta142 : tas Tryd.prog 142 = some (.ptr none) := by kernel_rfl
theorem sz143 : tsz Tryd.prog 143 = some 1 := by kernel_rfl
theorem ag143 : tag Tryd.prog 143 = some none := by kernel_rfl
theorem zc143 : tzc Tryd.prog 143 = some [(.int .i32 0)] := by kernel_rfl
theorem sr143 : tsrc Tryd.prog 143 = false := by kernel_rfl
theorem ni143 : tni Tryd.prog 143 = true := by kernel_rfl
theorem ta143 : tas Tryd.prog 143 = some (.int .i32 0) := by kernel_rfl
theorem sz144 : tsz Tryd.prog 144 = some 1 := by kernel_rfl
theorem ag144 : tag Tryd.prog 144 = some none := by kernel_rfl
theorem zc144 : tzc Tryd.prog 144 = some [(.int .i32 0)] := by kernel_rfl
theorem sr144 : tsrc Tryd.prog 144 = false := by kernel_rfl
theorem ni144 : tni Tryd.prog 144 = true := by kernel_rfl
theorem ta144 : tas Tryd.prog 144 = some (.int .i32 0) := by kernel_rfl
theorem sz145 : tsz Tryd.prog 145 = some 11 := by kernel_rfl
theorem ag145 : tag Tryd.prog 145 = some (some 11) := by kernel_rfl
theorem zc145 : tzc Tryd.prog 145 = some [(.int .u64 0), (.int .u64 0), (.int .u32 0), (.int .u8 0), (.int .u8 0), (.int .u8 0), (.int .u8 0), .nilFunc, (.ptr none), (.int .i32 0), (.int .i32 0)] := by kernel_rfl
theorem sr145 : tsrc Tryd.prog 145 = true := by kernel_rfl
theorem fd145_0 : tfd Tryd.prog 145 0 = some (0, 12) := by kernel_rfl
theorem fo145_0 : tfo Tryd.prog 145 0 = some 0 := by kernel_rfl
theorem fd145_1 : tfd Tryd.prog 145 1 = some (1, 12) := by kernel_rfl
theorem fo145_1 : tfo Tryd.prog 145 1 = some 1 := by kernel_rfl
theorem fd145_2 : tfd Tryd.prog 145 2 = some (2, 98) := by kernel_rfl
theorem fo145_2 : tfo Tryd.prog 145 2 = some 2 := by kernel_rfl
theorem fd145_3 : tfd Tryd.prog 145 3 = some (3, 139) := by kernel_rfl
theorem fo145_3 : tfo Tryd.prog 145 3 = some 3 := by kernel_rfl
theorem fd145_4 : tfd Tryd.prog 145 4 = some (4, 5) := by kernel_rfl
theorem fo145_4 : tfo Tryd.prog 145 4 = some 4 := by kernel_rfl
theorem fd145_5 : tfd Tryd.prog 145 5 = some (5, 5) := by kernel_rfl
theorem fo145_5 : tfo Tryd.prog 145 5 = some 5 := by kernel_rfl
theorem fd145_6 : tfd Tryd.prog 145 6 = some (6, 140) := by kernel_rfl
theorem fo145_6 : tfo Tryd.prog 145 6 = some 6 := by kernel_rfl
theorem fd145_7 : tfd Tryd.prog 145 7 = some (7, 141) := by kernel_rfl
theorem fo145_7 : tfo Tryd.prog 145 7 = some 7 := by kernel_rfl
theorem fd145_8 : tfd Tryd.prog 145 8 = some (8, 142) := by kernel_rfl
theorem fo145_8 : tfo Tryd.prog 145 8 = some 8 := by kernel_rfl
theorem fd145_9 : tfd Tryd.prog 145 9 = some (9, 143) := by kernel_rfl
theorem fo145_9 : tfo Tryd.prog 145 9 = some 9 := by kernel_rfl
theorem fd145_10 : tfd Tryd.prog 145 10 = some (10, 144) := by kernel_rfl
theorem fo145_10 : tfo Tryd.prog 145 10 = some 10 := by kernel_rfl
theorem pl145 : tpl Tryd.prog 145 = some [(0, 1), (1, 1), (2, 1), (3, 1), (4, 1), (5, 1), (6, 1), (7, 1), (8, 1), (9, 1), (10, 1)] := by kernel_rfl
theorem bd145 (ps : List (Nat × AV)) (K : AV → Prop) : aBuild Tryd.prog 145 ps K = aBld (tpl Tryd.prog 145) (tzc Tryd.prog 145) ps K := aBuild_eq (by rw [pl145]; rfl) ps K
theorem sz146 : tsz Tryd.prog 146 = some 11 := by kernel_rfl
theorem ag146 : tag Tryd.prog 146 = some (some 11) := by kernel_rfl
theorem zc146 : tzc Tryd.prog 146 = some [(.int .u64 0), (.int .u64 0), (.int .u32 0), (.int .u8 0), (.int .u8 0), (.int .u8 0), (.int .u8 0), .nilFunc, (.ptr none), (.int .i32 0), (.int .i32 0)] := by kernel_rfl
theorem sr146 : tsrc Tryd.prog 146 = true := by kernel_rfl
theorem fd146_0 : tfd Tryd.prog 146 0 = some (0, 12) := by kernel_rfl
theorem fo146_0 : tfo Tryd.prog 146 0 = some 0 := by kernel_rfl
theorem fd146_1 : tfd Tryd.prog 146 1 = some (1, 12) := by kernel_rfl
theorem fo146_1 : tfo Tryd.prog 146 1 = some 1 := by kernel_rfl
theorem fd146_2 : tfd Tryd.prog 146 2 = some (2, 98) := by kernel_rfl
theorem fo146_2 : tfo Tryd.prog 146 2 = some 2 := by kernel_rfl
theorem fd146_3 : tfd Tryd.prog 146 3 = some (3, 139) := by kernel_rfl
theorem fo146_3 : tfo Tryd.prog 146 3 = some 3 := by kernel_rfl
theorem fd146_4 : tfd Tryd.prog 146 4 = some (4, 5) := by kernel_rfl
theorem fo146_4 : tfo Tryd.prog 146 4 = some 4 := by kernel_rfl
theorem fd146_5 : tfd Tryd.prog 146 5 = some (5, 5) := by kernel_rfl
theorem fo146_5 : tfo Tryd.prog 146 5 = some 5 := by kernel_rfl
theorem fd146_6 : tfd Tryd.prog 146 6 = some (6, 140) := by kernel_rfl
theorem fo146_6 : tfo Tryd.prog 146 6 = some 6 := by kernel_rfl
theorem fd146_7 : tfd Tryd.prog 146 7 = some (7, 141) := by kernel_rfl
theorem fo146_7 : tfo Tryd.prog 146 7 = some 7 := by kernel_rfl
theorem fd146_8 : tfd Tryd.prog 146 8 = some (8, 142) := by kernel_rfl
theorem fo146_8 : tfo Tryd.prog 146 8 = some 8 := by kernel_rfl
theorem fd146_9 : tfd Tryd.prog 146 9 = some (9, 143) := by kernel_rfl
theorem fo146_9 : tfo Tryd.prog 146 9 = some 9 := by kernel_rfl
theorem fd146_10 : tfd Tryd.prog 146 10 = some (10, 144) := by kernel_rfl
theorem fo146_10 : tfo Tryd.prog 146 10 = some 10 := by kernel_rfl
theorem pl146 : tpl Tryd.prog 146 = some [(0, 1), (1, 1), (2, 1), (3, 1), (4, 1), (5, 1), (6, 1), (7, 1), (8, 1), (9, 1), (10, 1)] := by kernel_rfl
theorem bd146 (ps : List (Nat × AV)) (K : AV → Prop) : aBuild Tryd.prog 146 ps K = aBld (tpl Tryd.prog 146) (tzc Tryd.prog 146) ps K := aBuild_eq (by rw [pl146]; rfl) ps K
theorem ni146 : tni Tryd.prog 146 = true := by kernel_rfl
theorem ta146 : tas Tryd.prog 146 = some (.agg [(.int .u64 0), (.int .u64 0), (.int .u32 0), (.int .u8 0), (.int .u8 0), (.int .u8 0), (.int .u8 0), .nilFunc, (.ptr none), (.int .i32 0), (.int .i32 0)]) := by kernel_rfl
theorem sz147 : tsz Tryd.prog 147 = some 1 := by kernel_rfl
theorem ag147 : tag Tryd.prog 147 = some none := by kernel_rfl
theorem zc147 : tzc Tryd.prog 147 = some [(.ptr none)] := by kernel_rfl
theorem sr147 : tsrc Tryd.prog 147 = true := by kernel_rfl
theorem mu65 : tmkey Tryd.prog 65 = some true := by kernel_rfl
theorem mu76 : tmkey Tryd.prog 76 = some true := by kernel_rfl
theorem mq65 : mks Tryd.prog 65 = none := by kernel_rfl
theorem mq76 : mks Tryd.prog 76 = none := by kernel_rfl
theorem ar125 : tarr Tryd.prog 125 = some (5, 1) := by kernel_rfl
theorem ia125 (cs : List AV) (k : IntKind) (n : Int) (K : AV → Prop) : aIndex Tryd.prog 125 (.agg cs) (.int k n) K = (0 ≤ n ∧ n < 5 ∧ aLd Tryd.prog 73 (cs.drop (n.toNat * 1)) K) := aIndex_arr (by kernel_rfl) (by kernel_rfl) cs k n K
theorem ba125 (ps : List (Nat × AV)) (K : AV → Prop) : aBuild Tryd.prog 125 ps K = aBldA (tarr Tryd.prog 125) (tzc Tryd.prog 125) ps K := aBuildA_eq (by rw [ar125]; rfl) ps K
theorem ar135 : tarr Tryd.prog 135 = some (0, 1) := by kernel_rfl
theorem ia135 (cs : List AV) (k : IntKind) (n : Int) (K : AV → Prop) : aIndex Tryd.prog 135 (.agg cs) (.int k n) K = (0 ≤ n ∧ n < 0 ∧ aLd Tryd.prog 16 (cs.drop (n.toNat * 1)) K) := aIndex_arr (by kernel_rfl) (by kernel_rfl) cs k n K
theorem ba135 (ps : List (Nat × AV)) (K : AV → Prop) : aBuild Tryd.prog 135 ps K = aBldA (tarr Tryd.prog 135) (tzc Tryd.prog 135) ps K := aBuildA_eq (by rw [ar135]; rfl) ps K
theorem cv2_2 : tcv Tryd.prog 2 2 = some (some .i64) := by kernel_rfl
theorem cv2_3 : tcv Tryd.prog 2 3 = some (some .i64) := by kernel_rfl
theorem cv2_5 : tcv Tryd.prog 2 5 = some (some .u8) := by kernel_rfl
theorem cv2_6 : tcv Tryd.prog 2 6 = some (some .u8) := by kernel_rfl
theorem cv2_12 : tcv Tryd.prog 2 12 = some (some .u64) := by kernel_rfl
theorem cv2_21 : tcv Tryd.prog 2 21 = some (some .i32) := by kernel_rfl
theorem cv2_24 : tcv Tryd.prog 2 24 = some (some .i64) := by kernel_rfl
theorem cv2_83 : tcv Tryd.prog 2 83 = some (some .u64) := by kernel_rfl
theorem cv2_89 : tcv Tryd.prog 2 89 = some (some .i64) := by kernel_rfl
theorem cv2_98 : tcv Tryd.prog 2 98 = some (some .u32) := by kernel_rfl
theorem cv2_100 : tcv Tryd.prog 2 100 = some (some .u64) := by kernel_rfl
theorem cv2_111 : tcv Tryd.prog 2 111 = some (some .u64) := by kernel_rfl
theorem cv2_139 : tcv Tryd.prog 2 139 = some (some .u8) := by kernel_rfl
theorem cv2_140 : tcv Tryd.prog 2 140 = some (some .u8) := by kernel_rfl
theorem cv2_143 : tcv Tryd.prog 2 143 = some (some .i32) := by kernel_rfl
theorem cv2_144 : tcv Tryd.prog 2 144 = some (some .i32) := by kernel_rfl
theorem cv3_2 : tcv Tryd.prog 3 2 = some (some .i64) := by kernel_rfl
theorem cv3_3 : tcv Tryd.prog 3 3 = some (some .i64) := by kernel_rfl
theorem cv3_5 : tcv Tryd.prog 3 5 = some (some .u8) := by kernel_rfl
theorem cv3_6 : tcv Tryd.prog 3 6 = some (some .u8) := by kernel_rfl
theorem cv3_12 : tcv Tryd.prog 3 12 = some (some .u64) := by kernel_rfl
theorem cv3_21 : tcv Tryd.prog 3 21 = some (some .i32) := by kernel_rfl
theorem cv3_24 : tcv Tryd.prog 3 24 = some (some .i64) := by kernel_rfl
theorem cv3_83 : tcv Tryd.prog 3 83 = some (some .u64) := by kernel_rfl
theorem cv3_89 : tcv Tryd.prog 3 89 = some (some .i64) := by kernel_rfl
theorem cv3_98 : tcv Tryd.prog 3 98 = some (some .u32) := by kernel_rfl
theorem cv3_100 : tcv Tryd.prog 3 100 = some (some .u64) := by kernel_rfl
theorem cv3_111 : tcv Tryd.prog 3 111 = some (some .u64) := by kernel_rfl
theorem cv3_139 : tcv Tryd.prog 3 139 = some (some .u8) := by kernel_rfl
theorem cv3_140 : tcv Tryd.prog 3 140 = some (some .u8) := by kernel_rfl
theorem cv3_143 : tcv Tryd.prog 3 143 = some (some .i32) := by kernel_rfl
theorem cv3_144 : tcv Tryd.prog 3 144 = some (some .i32) := by kernel_rfl
theorem cv5_2 : tcv Tryd.prog 5 2 = some (some .i64) := by kernel_rfl
theorem cv5_3 : tcv Tryd.prog 5 3 = some (some .i64) := by kernel_rfl
theorem cv5_5 : tcv Tryd.prog 5 5 = some (some .u8) := by kernel_rfl
theorem cv5_6 : tcv Tryd.prog 5 6 = some (some .u8) := by kernel_rfl
theorem cv5_12 : tcv Tryd.prog 5 12 = some (some .u64) := by kernel_rfl
theorem cv5_21 : tcv Tryd.prog 5 21 = some (some .i32) := by kernel_rfl
theorem cv5_24 : tcv Tryd.prog 5 24 = some (some .i64) := by kernel_rfl
theorem cv5_83 : tcv Tryd.prog 5 83 = some (some .u64) := by kernel_rfl
theorem cv5_89 : tcv Tryd.prog 5 89 = some (some .i64) := by kernel_rfl
theorem cv5_98 : tcv Tryd.prog 5 98 = some (some .u32) := by kernel_rfl
theorem cv5_100 : tcv Tryd.prog 5 100 = some (some .u64) := by kernel_rfl
theorem cv5_111 : tcv Tryd.prog 5 111 = some (some .u64) := by kernel_rfl
theorem cv5_139 : tcv Tryd.prog 5 139 = some (some .u8) := by kernel_rfl
theorem cv5_140 : tcv Tryd.prog 5 140 = some (some .u8) := by kernel_rfl
theorem cv5_143 : tcv Tryd.prog 5 143 = some (some .i32) := by kernel_rfl
theorem cv5_144 : tcv Tryd.prog 5 144 = some (some .i32) := by kernel_rfl
theorem cv6_2 : tcv Tryd.prog 6 2 = some (some .i64) := by kernel_rfl
theorem cv6_3 : tcv Tryd.prog 6 3 = some (some .i64) := by kernel_rfl
theorem cv6_5 : tcv Tryd.prog 6 5 = some (some .u8) := by kernel_rfl
theorem cv6_6 : tcv Tryd.prog 6 6 = some (some .u8) := by kernel_rfl
theorem cv6_12 : tcv Tryd.prog 6 12 = some (some .u64) := by kernel_rfl
theorem cv6_21 : tcv Tryd.prog 6 21 = some (some .i32) := by kernel_rfl
theorem cv6_24 : tcv Tryd.prog 6 24 = some (some .i64) := by kernel_rfl
theorem cv6_83 : tcv Tryd.prog 6 83 = some (some .u64) := by kernel_rfl
theorem cv6_89 : tcv Tryd.prog 6 89 = some (some .i64) := by kernel_rfl
theorem cv6_98 : tcv Tryd.prog 6 98 = some (some .u32) := by kernel_rfl
theorem cv6_100 : tcv Tryd.prog 6 100 = some (some .u64) := by kernel_rfl
theorem cv6_111 : tcv Tryd.prog 6 111 = some (some .u64) := by kernel_rfl
theorem cv6_139 : tcv Tryd.prog 6 139 = some (some .u8) := by kernel_rfl
theorem cv6_140 : tcv Tryd.prog 6 140 = some (some .u8) := by kernel_rfl
theorem cv6_143 : tcv Tryd.prog 6 143 = some (some .i32) := by kernel_rfl
theorem cv6_144 : tcv Tryd.prog 6 144 = some (some .i32) := by kernel_rfl
theorem cv9_9 : tcv Tryd.prog 9 9 = some none := by kernel_rfl
theorem cv9_10 : tcv Tryd.prog 9 10 = some none := by kernel_rfl
theorem cv9_11 : tcv Tryd.prog 9 11 = some none := by kernel_rfl
theorem cv10_9 : tcv Tryd.prog 10 9 = some none := by kernel_rfl
theorem cv10_10 : tcv Tryd.prog 10 10 = some none := by kernel_rfl
theorem cv10_11 : tcv Tryd.prog 10 11 = some none := by kernel_rfl
theorem cv11_9 : tcv Tryd.prog 11 9 = some none := by kernel_rfl
theorem cv11_10 : tcv Tryd.prog 11 10 = some none := by kernel_rfl
theorem cv11_11 : tcv Tryd.prog 11 11 = some none := by kernel_rfl
theorem cv12_2 : tcv Tryd.prog 12 2 = some (some .i64) := by kernel_rfl
theorem cv12_3 : tcv Tryd.prog 12 3 = some (some .i64) := by kernel_rfl
theorem cv12_5 : tcv Tryd.prog 12 5 = some (some .u8) := by kernel_rfl
theorem cv12_6 : tcv Tryd.prog 12 6 = some (some .u8) := by kernel_rfl
theorem cv12_12 : tcv Tryd.prog 12 12 = some (some .u64) := by kernel_rfl
theorem cv12_21 : tcv Tryd.prog 12 21 = some (some .i32) := by kernel_rfl
theorem cv12_24 : tcv Tryd.prog 12 24 = some (some .i64) := by kernel_rfl
theorem cv12_83 : tcv Tryd.prog 12 83 = some (some .u64) := by kernel_rfl
theorem cv12_89 : tcv Tryd.prog 12 89 = some (some .i64) := by kernel_rfl
theorem cv12_98 : tcv Tryd.prog 12 98 = some (some .u32) := by kernel_rfl
theorem cv12_100 : tcv Tryd.prog 12 100 = some (some .u64) := by kernel_rfl
theorem cv12_111 : tcv Tryd.prog 12 111 = some (some .u64) := by kernel_rfl
theorem cv12_139 : tcv Tryd.prog 12 139 = some (some .u8) := by kernel_rfl
theorem cv12_140 : tcv Tryd.prog 12 140 = some (some .u8) := by kernel_rfl
theorem cv12_143 : tcv Tryd.prog 12 143 = some (some .i32) := by kernel_rfl
theorem cv12_144 : tcv Tryd.prog 12 144 = some (some .i32) := by kernel_rfl
theorem cv21_2 : tcv Tryd.prog 21 2 = some (some .i64) := by kernel_rfl
theorem cv21_3 : tcv Tryd.prog 21 3 = some (some .i64) := by kernel_rfl
theorem cv21_5 : tcv Tryd.prog 21 5 = some (some .u8) := by kernel_rfl
theorem cv21_6 : tcv Tryd.prog 21 6 = some (some .u8) := by kernel_rfl
theorem cv21_12 : tcv Tryd.prog 21 12 = some (some .u64) := by kernel_rfl
theorem cv21_21 : tcv Tryd.prog 21 21 = some (some .i32) := by kernel_rfl
theorem cv21_24 : tcv Tryd.prog 21 24 = some (some .i64) := by kernel_rfl
theorem cv21_83 : tcv Tryd.prog 21 83 = some (some .u64) := by kernel_rfl
theorem cv21_89 : tcv Tryd.prog 21 89 = some (some .i64) := by kernel_rfl
theorem cv21_98 : tcv Tryd.prog 21 98 = some (some .u32) := by kernel_rfl
theorem cv21_100 : tcv Tryd.prog 21 100 = some (some .u64) := by kernel_rfl
theorem cv21_111 : tcv Tryd.prog 21 111 = some (some .u64) := by kernel_rfl
theorem cv21_139 : tcv Tryd.prog 21 139 = some (some .u8) := by kernel_rfl
theorem cv21_140 : tcv Tryd.prog 21 140 = some (some .u8) := by kernel_rfl
theorem cv21_143 : tcv Tryd.prog 21 143 = some (some .i32) := by kernel_rfl
theorem cv21_144 : tcv Tryd.prog 21 144 = some (some .i32) := by kernel_rfl
theorem cv24_2 : tcv Tryd.prog 24 2 = some (some .i64) := by kernel_rfl
theorem cv24_3 : tcv Tryd.prog 24 3 = some (some .i64) := by kernel_rfl
theorem cv24_5 : tcv Tryd.prog 24 5 = some (some .u8) := by kernel_rfl
theorem cv24_6 : tcv Tryd.prog 24 6 = some (some .u8) := by kernel_rfl
theorem cv24_12 : tcv Tryd.prog 24 12 = some (some .u64) := by kernel_rfl
theorem cv24_21 : tcv Tryd.prog 24 21 = some (some .i32) := by kernel_rfl
theorem cv24_24 : tcv Tryd.prog 24 24 = some (some .i64) := by kernel_rfl
theorem cv24_83 : tcv Tryd.prog 24 83 = some (some .u64) := by kernel_rfl
theorem cv24_89 : tcv Tryd.prog 24 89 = some (some .i64) := by kernel_rfl
theorem cv24_98 : tcv Tryd.prog 24 98 = some (some .u32) := by kernel_rfl
theorem cv24_100 : tcv Tryd.prog 24 100 = some (some .u64) := by kernel_rfl
theorem cv24_111 : tcv Tryd.prog 24 111 = some (some .u64) := by kernel_rfl
theorem cv24_139 : tcv Tryd.prog 24 139 = some (some .u8) := by kernel_rfl
theorem cv24_140 : tcv Tryd.prog 24 140 = some (some .u8) := by kernel_rfl
theorem cv24_143 : tcv Tryd.prog 24 143 = some (some .i32) := by kernel_rfl
theorem cv24_144 : tcv Tryd.prog 24 144 = some (some .i32) := by kernel_rfl
theorem cv83_2 : tcv Tryd.prog 83 2 = some (some .i64) := by kernel_rfl
theorem cv83_3 : tcv Tryd.prog 83 3 = some (some .i64) := by kernel_rfl
theorem cv83_5 : tcv Tryd.prog 83 5 = some (some .u8) := by kernel_rfl
theorem cv83_6 : tcv Tryd.prog 83 6 = some (some .u8) := by kernel_rfl
theorem cv83_12 : tcv Tryd.prog 83 12 = some (some .u64) := by kernel_rfl
theorem cv83_21 : tcv Tryd.prog 83 21 = some (some .i32) := by kernel_rfl
theorem cv83_24 : tcv Tryd.prog 83 24 = some (some .i64) := by kernel_rfl
theorem cv83_83 : tcv Tryd.prog 83 83 = some (some .u64) := by kernel_rfl
theorem cv83_89 : tcv Tryd.prog 83 89 = some (some .i64) := by kernel_rfl
theorem cv83_98 : tcv Tryd.prog 83 98 = some (some .u32) := by kernel_rfl
theorem cv83_100 : tcv Tryd.prog 83 100 = some (some .u64) := by kernel_rfl
theorem cv83_111 : tcv Tryd.prog 83 111 = some (some .u64) := by kernel_rfl
theorem cv83_139 : tcv Tryd.prog 83 139 = some (some .u8) := by kernel_rfl
theorem cv83_140 : tcv Tryd.prog 83 140 = some (some .u8) := by kernel_rfl
theorem cv83_143 : tcv Tryd.prog 83 143 = some (some .i32) := by kernel_rfl
theorem cv83_144 : tcv Tryd.prog 83 144 = some (some .i32) := by kernel_rfl
theorem cv89_2 : tcv Tryd.prog 89 2 = some (some .i64) := by kernel_rfl
theorem cv89_3 : tcv Tryd.prog 89 3 = some (some .i64) := by kernel_rfl
theorem cv89_5 : tcv Tryd.prog 89 5 = some (some .u8) := by kernel_rfl
theorem cv89_6 : tcv Tryd.prog 89 6 = some (some .u8) := by kernel_rfl
theorem cv89_12 : tcv Tryd.prog 89 12 = some (some .u64) := by kernel_rfl
theorem cv89_21 : tcv Tryd.prog 89 21 = some (some .i32) := by kernel_rfl
theorem cv89_24 : tcv Tryd.prog 89 24 = some (some .i64) := by kernel_rfl
theorem cv89_83 : tcv Tryd.prog 89 83 = some (some .u64) := by kernel_rfl
theorem cv89_89 : tcv Tryd.prog 89 89 = some (some .i64) := by kernel_rfl
theorem cv89_98 : tcv Tryd.prog 89 98 = some (some .u32) := by kernel_rfl
theorem cv89_100 : tcv Tryd.prog 89 100 = some (some .u64) := by kernel_rfl
theorem cv89_111 : tcv Tryd.prog 89 111 = some (some .u64) := by kernel_rfl
theorem cv89_139 : tcv Tryd.prog 89 139 = some (some .u8) := by kernel_rfl
theorem cv89_140 : tcv Tryd.prog 89 140 = some (some .u8) := by kernel_rfl
theorem cv89_143 : tcv Tryd.prog 89 143 = some (some .i32) := by kernel_rfl
theorem cv89_144 : tcv Tryd.prog 89 144 = some (some .i32) := by kernel_rfl
theorem cv98_2 : tcv Tryd.prog 98 2 = some (some .i64) := by kernel_rfl
theorem cv98_3 : tcv Tryd.prog 98 3 = some (some .i64) := by kernel_rfl
theorem cv98_5 : tcv Tryd.prog 98 5 = some (some .u8) := by kernel_rfl
theorem cv98_6 : tcv Tryd.prog 98 6 = some (some .u8) := by kernel_rfl
theorem cv98_12 : tcv Tryd.prog 98 12 = some (some .u64) := by kernel_rfl
theorem cv98_21 : tcv Tryd.prog 98 21 = some (some .i32) := by kernel_rfl
theorem cv98_24 : tcv Tryd.prog 98 24 = some (some .i64) := by kernel_rfl
theorem cv98_83 : tcv Tryd.prog 98 83 = some (some .u64) := by kernel_rfl
theorem cv98_89 : tcv Tryd.prog 98 89 = some (some .i64) := by kernel_rfl
theorem cv98_98 : tcv Tryd.prog 98 98 = some (some .u32) := by kernel_rfl
theorem cv98_100 : tcv Tryd.prog 98 100 = some (some .u64) := by kernel_rfl
theorem cv98_111 : tcv Tryd.prog 98 111 = some (some .u64) := by kernel_rfl
theorem cv98_139 : tcv Tryd.prog 98 139 = some (some .u8) := by kernel_rfl
theorem cv98_140 : tcv Tryd.prog 98 140 = some (some .u8) := by kernel_rfl
theorem cv98_143 : tcv Tryd.prog 98 143 = some (some .i32) := by kernel_rfl
theorem cv98_144 : tcv Tryd.prog 98 144 = some (some .i32) := by kernel_rfl
theorem cv100_2 : tcv Tryd.prog 100 2 = some (some .i64) := by kernel_rfl
theorem cv100_3 : tcv Tryd.prog 100 3 = some (some .i64) := by kernel_rfl
theorem cv100_5 : tcv Tryd.prog 100 5 = some (some .u8) := by kernel_rfl
theorem cv100_6 : tcv Tryd.prog 100 6 = some (some .u8) := by kernel_rfl
theorem cv100_12 : tcv Tryd.prog 100 12 = some (some .u64) := by kernel_rfl
theorem cv100_21 : tcv Tryd.prog 100 21 = some (some .i32) := by kernel_rfl
theorem cv100_24 : tcv Tryd.prog 100 24 = some (some .i64) := by kernel_rfl
theorem cv100_83 : tcv Tryd.prog 100 83 = some (some .u64) := by kernel_rfl
theorem cv100_89 : tcv Tryd.prog 100 89 = some (some .i64) := by kernel_rfl
theorem cv100_98 : tcv Tryd.prog 100 98 = some (some .u32) := by kernel_rfl
theorem cv100_100 : tcv Tryd.prog 100 100 = some (some .u64) := by kernel_rfl
theorem cv100_111 : tcv Tryd.prog 100 111 = some (some .u64) := by kernel_rfl
theorem cv100_139 : tcv Tryd.prog 100 139 = some (some .u8) := by kernel_rfl
theorem cv100_140 : tcv Tryd.prog 100 140 = some (some .u8) := by kernel_rfl
theorem cv100_143 : tcv Tryd.prog 100 143 = some (some .i32) := by kernel_rfl
theorem cv100_144 : tcv Tryd.prog 100 144 = some (some .i32) := by kernel_rfl
theorem cv111_2 : tcv Tryd.prog 111 2 = some (some .i64) := by kernel_rfl
theorem cv111_3 : tcv Tryd.prog 111 3 = some (some .i64) := by kernel_rfl
theorem cv111_5 : tcv Tryd.prog 111 5 = some (some .u8) := by kernel_rfl
theorem cv111_6 : tcv Tryd.prog 111 6 = some (some .u8) := by kernel_rfl
theorem cv111_12 : tcv Tryd.prog 111 12 = some (some .u64) := by kernel_rfl
theorem cv111_21 : tcv Tryd.prog 111 21 = some (some .i32) := by kernel_rfl
theorem cv111_24 : tcv Tryd.prog 111 24 = some (some .i64) := by kernel_rfl
theorem cv111_83 : tcv Tryd.prog 111 83 = some (some .u64) := by kernel_rfl
theorem cv111_89 : tcv Tryd.prog 111 89 = some (some .i64) := by kernel_rfl
theorem cv111_98 : tcv Tryd.prog 111 98 = some (some .u32) := by kernel_rfl
theorem cv111_100 : tcv Tryd.prog 111 100 = some (some .u64) := by kernel_rfl
theorem cv111_111 : tcv Tryd.prog 111 111 = some (some .u64) := by kernel_rfl
theorem cv111_139 : tcv Tryd.prog 111 139 = some (some .u8) := by kernel_rfl
theorem cv111_140 : tcv Tryd.prog 111 140 = some (some .u8) := by kernel_rfl
theorem cv111_143 : tcv Tryd.prog 111 143 = some (some .i32) := by kernel_rfl
theorem cv111_144 : tcv Tryd.prog 111 144 = some (some .i32) := by kernel_rfl
theorem cv139_2 : tcv Tryd.prog 139 2 = some (some .i64) := by kernel_rfl
theorem cv139_3 : tcv Tryd.prog 139 3 = some (some .i64) := by kernel_rfl
theorem cv139_5 : tcv Tryd.prog 139 5 = some (some .u8) := by kernel_rfl
theorem cv139_6 : tcv Tryd.prog 139 6 = some (some .u8) := by kernel_rfl
theorem cv139_12 : tcv Tryd.prog 139 12 = some (some .u64) := by kernel_rfl
theorem cv139_21 : tcv Tryd.prog 139 21 = some (some .i32) := by kernel_rfl
theorem cv139_24 : tcv Tryd.prog 139 24 = some (some .i64) := by kernel_rfl
theorem cv139_83 : tcv Tryd.prog 139 83 = some (some .u64) := by kernel_rfl
theorem cv139_89 : tcv Tryd.prog 139 89 = some (some .i64) := by kernel_rfl
theorem cv139_98 : tcv Tryd.prog 139 98 = some (some .u32) := by kernel_rfl
theorem cv139_100 : tcv Tryd.prog 139 100 = some (some .u64) := by kernel_rfl
theorem cv139_111 : tcv Tryd.prog 139 111 = some (some .u64) := by kernel_rfl
theorem cv139_139 : tcv Tryd.prog 139 139 = some (some .u8) := by kernel_rfl
theorem cv139_140 : tcv Tryd.prog 139 140 = some (some .u8) := by kernel_rfl
theorem cv139_143 : tcv Tryd.prog 139 143 = some (some .i32) := by kernel_rfl
theorem cv139_144 : tcv Tryd.prog 139 144 = some (some .i32) := by kernel_rfl
theorem cv140_2 : tcv Tryd.prog 140 2 = some (some .i64) := by kernel_rfl
theorem cv140_3 : tcv Tryd.prog 140 3 = some (some .i64) := by kernel_rfl
theorem cv140_5 : tcv Tryd.prog 140 5 = some (some .u8) := by kernel_rfl
theorem cv140_6 : tcv Tryd.prog 140 6 = some (some .u8) := by kernel_rfl
theorem cv140_12 : tcv Tryd.prog 140 12 = some (some .u64) := by kernel_rfl
theorem cv140_21 : tcv Tryd.prog 140 21 = some (some .i32) := by kernel_rfl
theorem cv140_24 : tcv Tryd.prog 140 24 = some (some .i64) := by kernel_rfl
theorem cv140_83 : tcv Tryd.prog 140 83 = some (some .u64) := by kernel_rfl
theorem cv140_89 : tcv Tryd.prog 140 89 = some (some .i64) := by kernel_rfl
theorem cv140_98 : tcv Tryd.prog 140 98 = some (some .u32) := by kernel_rfl
theorem cv140_100 : tcv Tryd.prog 140 100 = some (some .u64) := by kernel_rfl
theorem cv140_111 : tcv Tryd.prog 140 111 = some (some .u64) := by kernel_rfl
theorem cv140_139 : tcv Tryd.prog 140 139 = some (some .u8) := by kernel_rfl
theorem cv140_140 : tcv Tryd.prog 140 140 = some (some .u8) := by kernel_rfl
theorem cv140_143 : tcv Tryd.prog 140 143 = some (some .i32) := by kernel_rfl
theorem cv140_144 : tcv Tryd.prog 140 144 = some (some .i32) := by kernel_rfl
theorem cv143_2 : tcv Tryd.prog 143 2 = some (some .i64) := by kernel_rfl
theorem cv143_3 : tcv Tryd.prog 143 3 = some (some .i64) := by kernel_rfl
theorem cv143_5 : tcv Tryd.prog 143 5 = some (some .u8) := by kernel_rfl
theorem cv143_6 : tcv Tryd.prog 143 6 = some (some .u8) := by kernel_rfl
theorem cv143_12 : tcv Tryd.prog 143 12 = some (some .u64) := by kernel_rfl
theorem cv143_21 : tcv Tryd.prog 143 21 = some (some .i32) := by kernel_rfl
theorem cv143_24 : tcv Tryd.prog 143 24 = some (some .i64) := by kernel_rfl
theorem cv143_83 : tcv Tryd.prog 143 83 = some (some .u64) := by kernel_rfl
theorem cv143_89 : tcv Tryd.prog 143 89 = some (some .i64) := by kernel_rfl
theorem cv143_98 : tcv Tryd.prog 143 98 = some (some .u32) := by kernel_rfl
theorem cv143_100 : tcv Tryd.prog 143 100 = some (some .u64) := by kernel_rfl
theorem cv143_111 : tcv Tryd.prog 143 111 = some (some .u64) := by kernel_rfl
theorem cv143_139 : tcv Tryd.prog 143 139 = some (some .u8) := by kernel_rfl
theorem cv143_140 : tcv Tryd.prog 143 140 = some (some .u8) := by kernel_rfl
theorem cv143_143 : tcv Tryd.prog 143 143 = some (some .i32) := by kernel_rfl
theorem cv143_144 : tcv Tryd.prog 143 144 = some (some .i32) := by kernel_rfl
theorem cv144_2 : tcv Tryd.prog 144 2 = some (some .i64) := by kernel_rfl
theorem cv144_3 : tcv Tryd.prog 144 3 = some (some .i64) := by kernel_rfl
theorem cv144_5 : tcv Tryd.prog 144 5 = some (some .u8) := by kernel_rfl
theorem cv144_6 : tcv Tryd.prog 144 6 = some (some .u8) := by kernel_rfl
theorem cv144_12 : tcv Tryd.prog 144 12 = some (some .u64) := by kernel_rfl
theorem cv144_21 : tcv Tryd.prog 144 21 = some (some .i32) := by kernel_rfl
theorem cv144_24 : tcv Tryd.prog 144 24 = some (some .i64) := by kernel_rfl
theorem cv144_83 : tcv Tryd.prog 144 83 = some (some .u64) := by kernel_rfl
theorem cv144_89 : tcv Tryd.prog 144 89 = some (some .i64) := by kernel_rfl
theorem cv144_98 : tcv Tryd.prog 144 98 = some (some .u32) := by kernel_rfl
theorem cv144_100 : tcv Tryd.prog 144 100 = some (some .u64) := by kernel_rfl
theorem cv144_111 : tcv Tryd.prog 144 111 = some (some .u64) := by kernel_rfl
theorem cv144_139 : tcv Tryd.prog 144 139 = some (some .u8) := by kernel_rfl
theorem cv144_140 : tcv Tryd.prog 144 140 = some (some .u8) := by kernel_rfl
theorem cv144_143 : tcv Tryd.prog 144 143 = some (some .i32) := by kernel_rfl
theorem cv144_144 : tcv Tryd.prog 144 144 = some (some .i32) := by kernel_rfl
attribute [go_sem] sz1 ag1 zc1 sr1 sz2 ag2 zc2 sr2 sz3 ag3 zc3 sr3 sz4 ag4 zc4 sr4 bo4 sz5 ag5 zc5 sr5 sz6 ag6 zc6 sr6 ni6 ta6 sz7 ag7 zc7 sr7 fd7_0 fo7_0 fd7_1 fo7_1 fd7_2 fo7_2 fd7_3 fo7_3 pl7 bd7 sz8 ag8 zc8 sr8 fd8_0 fo8_0 fd8_1 fo8_1 fd8_2 fo8_2 fd8_3 fo8_3 pl8 bd8 ni8 ta8 sz9 ag9 zc9 sr9 cu9 ln9 sz10 ag10 zc10 sr10 ni10 ta10 cu10 ln10 sz11 ag11 zc11 sr11 ni11 ta11 cu11 ln11 sz12 ag12 zc12 sr12 sz13 ag13 zc13 sr13 fd13_0 fo13_0 fd13_1 fo13_1 pl13 bd13 sz14 ag14 zc14 sr14 fd14_0 fo14_0 fd14_1 fo14_1 pl14 bd14 ni14 ta14 sz15 ag15 zc15 sr15 ni15 ta15 sz16 ag16 zc16 sr16 ni16 ta16 sz17 ag17 zc17 sr17 ni17 ta17 sz18 ag18 zc18 sr18 fd18_0 fo18_0 pl18 bd18 sz19 ag19 zc19 sr19 fd19_0 fo19_0 pl19 bd19 ni19 ta19 sz20 ag20 zc20 sr20 if20 sz21 ag21 zc21 sr21 sz22 ag22 zc22 sr22 el22 cu22 ap22 bs22 ms22 mm22 mc22 mb22 ma22 ae22_22 ln22 sz23 ag23 zc23 sr23 sz24 ag24 zc24 sr24 ni24 ta24 sz26 ag26 zc26 sr26 sz27 ag27 zc27 sr27 el27 cu27 ap27 bs27 ms27 mm27 mc27 mb27 ma27 ae27_27 ln27 sz29 ag29 zc29 sr29 sz30 ag30 zc30 sr30 sz31 ag31 zc31 sr31 sz32 ag32 zc32 sr32 sz33 ag33 zc33 sr33 el33 cu33 ap33 bs33 ms33 mm33 mc33 mb33 ma33 ae33_33 ln33 sz34 ag34 zc34 sr34 sz36 ag36 zc36 sr36 sz37 ag37 zc37 sr37 el37 cu37 ap37 bs37 ms37 mm37 mc37 mb37 ma37 ae37_37 ln37 sz38 ag38 zc38 sr38 el38 cu38 ap38 bs38 ms38 mm38 mc38 mb38 ma38 ae38_38 ln38 sz39 ag39 zc39 sr39 el39 cu39 ap39 bs39 ms39 mm39 mc39 mb39 ma39 ae39_39 ln39 sz40 ag40 zc40 sr40 fd40_0 fo40_0 fd40_1 fo40_1 fd40_2 fo40_2 fd40_3 fo40_3 fd40_4 fo40_4 pl40 bd40 sz41 ag41 zc41 sr41 fd41_0 fo41_0 fd41_1 fo41_1 fd41_2 fo41_2 fd41_3 fo41_3 fd41_4 fo41_4 pl41 bd41 ni41 ta41 sz42 ag42 zc42 sr42 fd42_0 fo42_0 fd42_1 fo42_1 fd42_2 fo42_2 fd42_3 fo42_3 fd42_4 fo42_4 fd42_5 fo42_5 pl42 bd42 sz43 ag43 zc43 sr43 fd43_0 fo43_0 fd43_1 fo43_1 fd43_2 fo43_2 fd43_3 fo43_3 fd43_4 fo43_4 fd43_5 fo43_5 pl43 bd43 ni43 ta43 sz44 ag44 zc44 sr44 fd44_0 fo44_0 fd44_1 fo44_1 fd44_2 fo44_2 fd44_3 fo44_3 pl44 bd44 sz45 ag45 zc45 sr45 fd45_0 fo45_0 fd45_1 fo45_1 fd45_2 fo45_2 fd45_3 fo45_3 pl45 bd45 ni45 ta45 sz46 ag46 zc46 sr46 sz48 ag48 zc48 sr48 sz49 ag49 zc49 sr49 sz50 ag50 zc50 sr50 sz51 ag51 zc51 sr51 sz52 ag52 zc52 sr52 sz53 ag53 zc53 sr53 sz54 ag54 zc54 sr54 sz55 ag55 zc55 sr55 sz56 ag56 zc56 sr56 sz57 ag57 zc57 sr57 sz58 ag58 zc58 sr58 sz59 ag59 zc59 sr59 sz60 ag60 zc60 sr60 sz61 ag61 zc61 sr61 sz62 ag62 zc62 sr62 sz63 ag63 zc63 sr63 sz64 ag64 zc64 sr64 sz65 ag65 zc65 sr65 ln65 mk65 sz66 ag66 zc66 sr66 sz67 ag67 zc67 sr67 sz68 ag68 zc68 sr68 sz69 ag69 zc69 sr69 fd69_0 fo69_0 fd69_1 fo69_1 fd69_2 fo69_2 fd69_3 fo69_3 pl69 bd69 sz70 ag70 zc70 sr70 fd70_0 fo70_0 fd70_1 fo70_1 fd70_2 fo70_2 fd70_3 fo70_3 pl70 bd70 ni70 ta70 sz72 ag72 zc72 sr72 sz73 ag73 zc73 sr73 sz74 ag74 zc74 sr74 sz75 ag75 zc75 sr75 sz76 ag76 zc76 sr76 ln76 mk76 sz77 ag77 zc77 sr77 sz78 ag78 zc78 sr78 sz79 ag79 zc79 sr79 sz80 ag80 zc80 sr80 sz81 ag81 zc81 sr81 sz82 ag82 zc82 sr82 sz83 ag83 zc83 sr83 sz84 ag84 zc84 sr84 sz86 ag86 zc86 sr86 sz87 ag87 zc87 sr87 sz88 ag88 zc88 sr88 sz89 ag89 zc89 sr89 ni89 ta89 sz91 ag91 zc91 sr91 sz92 ag92 zc92 sr92 sz93 ag93 zc93 sr93 sz94 ag94 zc94 sr94 sz96 ag96 zc96 sr96 sz97 ag97 zc97 sr97 sz98 ag98 zc98 sr98 sz99 ag99 zc99 sr99 sz100 ag100 zc100 sr100 sz101 ag101 zc101 sr101 sz102 ag102 zc102 sr102 sz103 ag103 zc103 sr103 sz104 ag104 zc104 sr104 sz105 ag105 zc105 sr105 sz106 ag106 zc106 sr106 sz107 ag107 zc107 sr107 fd107_0 fo107_0 fd107_1 fo107_1 pl107 bd107 sz108 ag108 zc108 sr108 fd108_0 fo108_0 fd108_1 fo108_1 pl108 bd108 ni108 ta108 sz109 ag109 zc109 sr109 sz110 ag110 zc110 sr110 sz111 ag111 zc111 sr111 ni111 ta111 sz112 ag112 zc112 sr112 sz113 ag113 zc113 sr113 sz114 ag114 zc114 sr114 sz115 ag115 zc115 sr115 ni115 ta115 sz116 ag116 zc116 sr116 sz117 ag117 zc117 sr117 fd117_0 fo117_0 pl117 bd117 sz118 ag118 zc118 sr118 fd118_0 fo118_0 pl118 bd118 es118 ni118 ta118 sz120 ag120 zc120 sr120 sz121 ag121 zc121 sr121 sz122 ag122 zc122 sr122 sz123 ag123 zc123 sr123 sz124 ag124 zc124 sr124 sz125 ag125 zc125 sr125 es125 el125 ln125 sz126 ag126 zc126 sr126 sz127 ag127 zc127 sr127 ni127 ta127 sz129 ag129 zc129 sr129 sz130 ag130 zc130 sr130 sz131 ag131 zc131 sr131 sz132 ag132 zc132 sr132 sz133 ag133 zc133 sr133 fd133_0 fo133_0 fd133_1 fo133_1 fd133_2 fo133_2 fd133_3 fo133_3 pl133 bd133 sz134 ag134 zc134 sr134 fd134_0 fo134_0 fd134_1 fo134_1 fd134_2 fo134_2 fd134_3 fo134_3 pl134 bd134 ni134 ta134 sz135 ag135 zc135 sr135 es135 el135 ln135 sz136 ag136 zc136 sr136 fd136_0 pl136 bd136 sz137 ag137 zc137 sr137 fd137_0 pl137 bd137 ni137 ta137 sz138 ag138 zc138 sr138 sz139 ag139 zc139 sr139 ni139 ta139 sz140 ag140 zc140 sr140 ni140 ta140 sz141 ag141 zc141 sr141 sz142 ag142 zc142 sr142 ni142 ta142 sz143 ag143 zc143 sr143 ni143 ta143 sz144 ag144 zc144 sr144 ni144 ta144 sz145 ag145 zc145 sr145 fd145_0 fo145_0 fd145_1 fo145_1 fd145_2 fo145_2 fd145_3 fo145_3 fd145_4 fo145_4 fd145_5 fo145_5 fd145_6 fo145_6 fd145_7 fo145_7 fd145_8 fo145_8 fd145_9 fo145_9 fd145_10 fo145_10 pl145 bd145 sz146 ag146 zc146 sr146 fd146_0 fo146_0 fd146_1 fo146_1 fd146_2 fo146_2 fd146_3 fo146_3 fd146_4 fo146_4 fd146_5 fo146_5 fd146_6 fo146_6 fd146_7 fo146_7 fd146_8 fo146_8 fd146_9 fo146_9 fd146_10 fo146_10 pl146 bd146 ni146 ta146 sz147 ag147 zc147 sr147 mu65 mu76 mq65 mq76 ar125 ia125 ba125 ar135 ia135 ba135 cv2_2 cv2_3 cv2_5 cv2_6 cv2_12 cv2_21 cv2_24 cv2_83 cv2_89 cv2_98 cv2_100 cv2_111 cv2_139 cv2_140 cv2_143 cv2_144 cv3_2 cv3_3 cv3_5 cv3_6 cv3_12 cv3_21 cv3_24 cv3_83 cv3_89 cv3_98 cv3_100 cv3_111 cv3_139 cv3_140 cv3_143 cv3_144 cv5_2 cv5_3 cv5_5 cv5_6 cv5_12 cv5_21 cv5_24 cv5_83 cv5_89 cv5_98 cv5_100 cv5_111 cv5_139 cv5_140 cv5_143 cv5_144 cv6_2 cv6_3 cv6_5 cv6_6 cv6_12 cv6_21 cv6_24 cv6_83 cv6_89 cv6_98 cv6_100 cv6_111 cv6_139 cv6_140 cv6_143 cv6_144 cv9_9 cv9_10 cv9_11 cv10_9 cv10_10 cv10_11 cv11_9 cv11_10 cv11_11 cv12_2 cv12_3 cv12_5 cv12_6 cv12_12 cv12_21 cv12_24 cv12_83 cv12_89 cv12_98 cv12_100 cv12_111 cv12_139 cv12_140 cv12_143 cv12_144 cv21_2 cv21_3 cv21_5 cv21_6 cv21_12 cv21_21 cv21_24 cv21_83 cv21_89 cv21_98 cv21_100 cv21_111 cv21_139 cv21_140 cv21_143 cv21_144 cv24_2 cv24_3 cv24_5 cv24_6 cv24_12 cv24_21 cv24_24 cv24_83 cv24_89 cv24_98 cv24_100 cv24_111 cv24_139 cv24_140 cv24_143 cv24_144 cv83_2 cv83_3 cv83_5 cv83_6 cv83_12 cv83_21 cv83_24 cv83_83 cv83_89 cv83_98 cv83_100 cv83_111 cv83_139 cv83_140 cv83_143 cv83_144 cv89_2 cv89_3 cv89_5 cv89_6 cv89_12 cv89_21 cv89_24 cv89_83 cv89_89 cv89_98 cv89_100 cv89_111 cv89_139 cv89_140 cv89_143 cv89_144 cv98_2 cv98_3 cv98_5 cv98_6 cv98_12 cv98_21 cv98_24 cv98_83 cv98_89 cv98_98 cv98_100 cv98_111 cv98_139 cv98_140 cv98_143 cv98_144 cv100_2 cv100_3 cv100_5 cv100_6 cv100_12 cv100_21 cv100_24 cv100_83 cv100_89 cv100_98 cv100_100 cv100_111 cv100_139 cv100_140 cv100_143 cv100_144 cv111_2 cv111_3 cv111_5 cv111_6 cv111_12 cv111_21 cv111_24 cv111_83 cv111_89 cv111_98 cv111_100 cv111_111 cv111_139 cv111_140 cv111_143 cv111_144 cv139_2 cv139_3 cv139_5 cv139_6 cv139_12 cv139_21 cv139_24 cv139_83 cv139_89 cv139_98 cv139_100 cv139_111 cv139_139 cv139_140 cv139_143 cv139_144 cv140_2 cv140_3 cv140_5 cv140_6 cv140_12 cv140_21 cv140_24 cv140_83 cv140_89 cv140_98 cv140_100 cv140_111 cv140_139 cv140_140 cv140_143 cv140_144 cv143_2 cv143_3 cv143_5 cv143_6 cv143_12 cv143_21 cv143_24 cv143_83 cv143_89 cv143_98 cv143_100 cv143_111 cv143_139 cv143_140 cv143_143 cv143_144 cv144_2 cv144_3 cv144_5 cv144_6 cv144_12 cv144_21 cv144_24 cv144_83 cv144_89 cv144_98 cv144_100 cv144_111 cv144_139 cv144_140 cv144_143 cv144_144
end Go.Proofs.YtjdhgaflenhljaaDoor.Ty
