/-
  The walk of SizesFit.
-/
import Derived.Test.YtodcmamihnlbeaaFit
namespace Go.Proofs.Ytodcmamihnlbeaa
open Go.RowKit

set_option maxHeartbeats 8000000 in
theorem fit_any (a b : Int) (w : World) : Calls Try.prog 4 #[.int .i64 a, .int .i64 b] w fun e w' => e = .returned (.bool true) ∧ Fr0 w w' := by
  have hf : Fr0 w w := Fr.refl _ _
  have ra := brg_range a 512 (by decide)
  have rb := brg_range b 512 (by decide)
  have Ba := bring512 a
  have Bb := bring512 b
  generalize brg a 512 = x at ra Ba
  generalize brg b 512 = y at rb Bb
  obtain ⟨f1, f2, f3, f4, f5, f6, f7, f8⟩ := fit_one (1 + x) (by omega) (by omega)
  have hm : 1 + x ≤ 1 + y → cls (1 + x) ≤ cls (1 + y) := cls_mono _ _ (by omega) (by omega)
  have hwa : wst (1 + x) = szV (cls (1 + x)) - (1 + x) := by
    unfold wst
    rw [if_neg (by rw [clE_zero (by omega) (by omega)]; decide)]
  have Ca := class_any (1 + x)
  have Cb := class_any (1 + y)
  have Cs := size_any (cls (1 + x))
  have Cp := size_any (cls (1 + x) - 1)
  have Cw := waste_any (1 + x)
  have Cn := class_any (szV (cls (1 + x)))
  rw [clE_zero (by omega) (by omega)] at Ca Cb
  rw [f1] at Cs
  rw [f7, f8] at Cn
  rw [hwa] at Cw
  have rc := cls_range (1 + x)
  have rd := cls_range (1 + y)
  clear hwa f1 f7 f8
  generalize cls (1 + x) = c at *
  generalize cls (1 + y) = d at *
  generalize szV c = n at *
  have F := hid f2
  by_cases q1 : 1 + x ≤ 1 + y
  · by_cases q2 : 8 < n
    · by_cases q3 : 0 < c
      · replace hm := hm q1
        replace f5 := f5 q2
        obtain ⟨f61, f62⟩ := f6 q3
        rw [f61] at Cp
        clear f61 f6
        generalize szV (c - 1) = v at *
        go_enter Try.func4, Try.ntmps4
        go_wp2_with (fail)
        refine (works_any _).mono ?_; rintro e' w' ⟨rfl, hf'⟩; replace hf := hf.trans0 hf'; clear hf'
        go_wp2_with (fail)
        refine (Ba _).mono ?_; rintro e' w' ⟨rfl, rfl⟩
        go_wp2_with (fail)
        refine (Bb _).mono ?_; rintro e' w' ⟨rfl, rfl⟩
        go_wp2_with (fail)
        refine (Ca _).mono ?_; rintro e' w' ⟨rfl, hf'⟩; replace hf := hf.trans0 hf'; clear hf'
        go_wp2_with (fail)
        refine (Cb _).mono ?_; rintro e' w' ⟨rfl, hf'⟩; replace hf := hf.trans0 hf'; clear hf'
        go_wp2_with (fail)
        refine (Cs _).mono ?_; rintro e' w' ⟨rfl, hf'⟩; replace hf := hf.trans0 hf'; clear hf'
        go_wp2_with (fail)
        refine (Cw _).mono ?_; rintro e' w' ⟨rfl, hf'⟩; replace hf := hf.trans0 hf'; clear hf'
        go_wp2_with (fail)
        refine (Cw _).mono ?_; rintro e' w' ⟨rfl, hf'⟩; replace hf := hf.trans0 hf'; clear hf'
        go_wp2_with (fail)
        refine (Cp _).mono ?_; rintro e' w' ⟨rfl, hf'⟩; replace hf := hf.trans0 hf'; clear hf'
        go_wp2_with (fail)
        refine (Cn _).mono ?_; rintro e' w' ⟨rfl, hf'⟩; replace hf := hf.trans0 hf'; clear hf'
        go_wp2_with (fail)
        go_ret
        exact ⟨by rfl, hf⟩
      · replace hm := hm q1
        replace f5 := f5 q2
        clear f6 Cp
        go_enter Try.func4, Try.ntmps4
        go_wp2_with (fail)
        refine (works_any _).mono ?_; rintro e' w' ⟨rfl, hf'⟩; replace hf := hf.trans0 hf'; clear hf'
        go_wp2_with (fail)
        refine (Ba _).mono ?_; rintro e' w' ⟨rfl, rfl⟩
        go_wp2_with (fail)
        refine (Bb _).mono ?_; rintro e' w' ⟨rfl, rfl⟩
        go_wp2_with (fail)
        refine (Ca _).mono ?_; rintro e' w' ⟨rfl, hf'⟩; replace hf := hf.trans0 hf'; clear hf'
        go_wp2_with (fail)
        refine (Cb _).mono ?_; rintro e' w' ⟨rfl, hf'⟩; replace hf := hf.trans0 hf'; clear hf'
        go_wp2_with (fail)
        refine (Cs _).mono ?_; rintro e' w' ⟨rfl, hf'⟩; replace hf := hf.trans0 hf'; clear hf'
        go_wp2_with (fail)
        refine (Cw _).mono ?_; rintro e' w' ⟨rfl, hf'⟩; replace hf := hf.trans0 hf'; clear hf'
        go_wp2_with (fail)
        refine (Cw _).mono ?_; rintro e' w' ⟨rfl, hf'⟩; replace hf := hf.trans0 hf'; clear hf'
        go_wp2_with (fail)
        refine (Cn _).mono ?_; rintro e' w' ⟨rfl, hf'⟩; replace hf := hf.trans0 hf'; clear hf'
        go_wp2_with (fail)
        go_ret
        exact ⟨by rfl, hf⟩
    · by_cases q3 : 0 < c
      · replace hm := hm q1
        clear f5
        obtain ⟨f61, f62⟩ := f6 q3
        rw [f61] at Cp
        clear f61 f6
        generalize szV (c - 1) = v at *
        go_enter Try.func4, Try.ntmps4
        go_wp2_with (fail)
        refine (works_any _).mono ?_; rintro e' w' ⟨rfl, hf'⟩; replace hf := hf.trans0 hf'; clear hf'
        go_wp2_with (fail)
        refine (Ba _).mono ?_; rintro e' w' ⟨rfl, rfl⟩
        go_wp2_with (fail)
        refine (Bb _).mono ?_; rintro e' w' ⟨rfl, rfl⟩
        go_wp2_with (fail)
        refine (Ca _).mono ?_; rintro e' w' ⟨rfl, hf'⟩; replace hf := hf.trans0 hf'; clear hf'
        go_wp2_with (fail)
        refine (Cb _).mono ?_; rintro e' w' ⟨rfl, hf'⟩; replace hf := hf.trans0 hf'; clear hf'
        go_wp2_with (fail)
        refine (Cs _).mono ?_; rintro e' w' ⟨rfl, hf'⟩; replace hf := hf.trans0 hf'; clear hf'
        go_wp2_with (fail)
        refine (Cw _).mono ?_; rintro e' w' ⟨rfl, hf'⟩; replace hf := hf.trans0 hf'; clear hf'
        go_wp2_with (fail)
        refine (Cp _).mono ?_; rintro e' w' ⟨rfl, hf'⟩; replace hf := hf.trans0 hf'; clear hf'
        go_wp2_with (fail)
        refine (Cn _).mono ?_; rintro e' w' ⟨rfl, hf'⟩; replace hf := hf.trans0 hf'; clear hf'
        go_wp2_with (fail)
        go_ret
        exact ⟨by rfl, hf⟩
      · replace hm := hm q1
        clear f5
        clear f6 Cp
        go_enter Try.func4, Try.ntmps4
        go_wp2_with (fail)
        refine (works_any _).mono ?_; rintro e' w' ⟨rfl, hf'⟩; replace hf := hf.trans0 hf'; clear hf'
        go_wp2_with (fail)
        refine (Ba _).mono ?_; rintro e' w' ⟨rfl, rfl⟩
        go_wp2_with (fail)
        refine (Bb _).mono ?_; rintro e' w' ⟨rfl, rfl⟩
        go_wp2_with (fail)
        refine (Ca _).mono ?_; rintro e' w' ⟨rfl, hf'⟩; replace hf := hf.trans0 hf'; clear hf'
        go_wp2_with (fail)
        refine (Cb _).mono ?_; rintro e' w' ⟨rfl, hf'⟩; replace hf := hf.trans0 hf'; clear hf'
        go_wp2_with (fail)
        refine (Cs _).mono ?_; rintro e' w' ⟨rfl, hf'⟩; replace hf := hf.trans0 hf'; clear hf'
        go_wp2_with (fail)
        refine (Cw _).mono ?_; rintro e' w' ⟨rfl, hf'⟩; replace hf := hf.trans0 hf'; clear hf'
        go_wp2_with (fail)
        refine (Cn _).mono ?_; rintro e' w' ⟨rfl, hf'⟩; replace hf := hf.trans0 hf'; clear hf'
        go_wp2_with (fail)
        go_ret
        exact ⟨by rfl, hf⟩
  · by_cases q2 : 8 < n
    · by_cases q3 : 0 < c
      · clear hm
        replace f5 := f5 q2
        obtain ⟨f61, f62⟩ := f6 q3
        rw [f61] at Cp
        clear f61 f6
        generalize szV (c - 1) = v at *
        go_enter Try.func4, Try.ntmps4
        go_wp2_with (fail)
        refine (works_any _).mono ?_; rintro e' w' ⟨rfl, hf'⟩; replace hf := hf.trans0 hf'; clear hf'
        go_wp2_with (fail)
        refine (Ba _).mono ?_; rintro e' w' ⟨rfl, rfl⟩
        go_wp2_with (fail)
        refine (Bb _).mono ?_; rintro e' w' ⟨rfl, rfl⟩
        go_wp2_with (fail)
        refine (Ca _).mono ?_; rintro e' w' ⟨rfl, hf'⟩; replace hf := hf.trans0 hf'; clear hf'
        go_wp2_with (fail)
        refine (Cb _).mono ?_; rintro e' w' ⟨rfl, hf'⟩; replace hf := hf.trans0 hf'; clear hf'
        go_wp2_with (fail)
        refine (Cs _).mono ?_; rintro e' w' ⟨rfl, hf'⟩; replace hf := hf.trans0 hf'; clear hf'
        go_wp2_with (fail)
        refine (Cw _).mono ?_; rintro e' w' ⟨rfl, hf'⟩; replace hf := hf.trans0 hf'; clear hf'
        go_wp2_with (fail)
        refine (Cw _).mono ?_; rintro e' w' ⟨rfl, hf'⟩; replace hf := hf.trans0 hf'; clear hf'
        go_wp2_with (fail)
        refine (Cp _).mono ?_; rintro e' w' ⟨rfl, hf'⟩; replace hf := hf.trans0 hf'; clear hf'
        go_wp2_with (fail)
        refine (Cn _).mono ?_; rintro e' w' ⟨rfl, hf'⟩; replace hf := hf.trans0 hf'; clear hf'
        go_wp2_with (fail)
        go_ret
        exact ⟨by rfl, hf⟩
      · clear hm
        replace f5 := f5 q2
        clear f6 Cp
        go_enter Try.func4, Try.ntmps4
        go_wp2_with (fail)
        refine (works_any _).mono ?_; rintro e' w' ⟨rfl, hf'⟩; replace hf := hf.trans0 hf'; clear hf'
        go_wp2_with (fail)
        refine (Ba _).mono ?_; rintro e' w' ⟨rfl, rfl⟩
        go_wp2_with (fail)
        refine (Bb _).mono ?_; rintro e' w' ⟨rfl, rfl⟩
        go_wp2_with (fail)
        refine (Ca _).mono ?_; rintro e' w' ⟨rfl, hf'⟩; replace hf := hf.trans0 hf'; clear hf'
        go_wp2_with (fail)
        refine (Cb _).mono ?_; rintro e' w' ⟨rfl, hf'⟩; replace hf := hf.trans0 hf'; clear hf'
        go_wp2_with (fail)
        refine (Cs _).mono ?_; rintro e' w' ⟨rfl, hf'⟩; replace hf := hf.trans0 hf'; clear hf'
        go_wp2_with (fail)
        refine (Cw _).mono ?_; rintro e' w' ⟨rfl, hf'⟩; replace hf := hf.trans0 hf'; clear hf'
        go_wp2_with (fail)
        refine (Cw _).mono ?_; rintro e' w' ⟨rfl, hf'⟩; replace hf := hf.trans0 hf'; clear hf'
        go_wp2_with (fail)
        refine (Cn _).mono ?_; rintro e' w' ⟨rfl, hf'⟩; replace hf := hf.trans0 hf'; clear hf'
        go_wp2_with (fail)
        go_ret
        exact ⟨by rfl, hf⟩
    · by_cases q3 : 0 < c
      · clear hm
        clear f5
        obtain ⟨f61, f62⟩ := f6 q3
        rw [f61] at Cp
        clear f61 f6
        generalize szV (c - 1) = v at *
        go_enter Try.func4, Try.ntmps4
        go_wp2_with (fail)
        refine (works_any _).mono ?_; rintro e' w' ⟨rfl, hf'⟩; replace hf := hf.trans0 hf'; clear hf'
        go_wp2_with (fail)
        refine (Ba _).mono ?_; rintro e' w' ⟨rfl, rfl⟩
        go_wp2_with (fail)
        refine (Bb _).mono ?_; rintro e' w' ⟨rfl, rfl⟩
        go_wp2_with (fail)
        refine (Ca _).mono ?_; rintro e' w' ⟨rfl, hf'⟩; replace hf := hf.trans0 hf'; clear hf'
        go_wp2_with (fail)
        refine (Cb _).mono ?_; rintro e' w' ⟨rfl, hf'⟩; replace hf := hf.trans0 hf'; clear hf'
        go_wp2_with (fail)
        refine (Cs _).mono ?_; rintro e' w' ⟨rfl, hf'⟩; replace hf := hf.trans0 hf'; clear hf'
        go_wp2_with (fail)
        refine (Cw _).mono ?_; rintro e' w' ⟨rfl, hf'⟩; replace hf := hf.trans0 hf'; clear hf'
        go_wp2_with (fail)
        refine (Cp _).mono ?_; rintro e' w' ⟨rfl, hf'⟩; replace hf := hf.trans0 hf'; clear hf'
        go_wp2_with (fail)
        refine (Cn _).mono ?_; rintro e' w' ⟨rfl, hf'⟩; replace hf := hf.trans0 hf'; clear hf'
        go_wp2_with (fail)
        go_ret
        exact ⟨by rfl, hf⟩
      · clear hm
        clear f5
        clear f6 Cp
        go_enter Try.func4, Try.ntmps4
        go_wp2_with (fail)
        refine (works_any _).mono ?_; rintro e' w' ⟨rfl, hf'⟩; replace hf := hf.trans0 hf'; clear hf'
        go_wp2_with (fail)
        refine (Ba _).mono ?_; rintro e' w' ⟨rfl, rfl⟩
        go_wp2_with (fail)
        refine (Bb _).mono ?_; rintro e' w' ⟨rfl, rfl⟩
        go_wp2_with (fail)
        refine (Ca _).mono ?_; rintro e' w' ⟨rfl, hf'⟩; replace hf := hf.trans0 hf'; clear hf'
        go_wp2_with (fail)
        refine (Cb _).mono ?_; rintro e' w' ⟨rfl, hf'⟩; replace hf := hf.trans0 hf'; clear hf'
        go_wp2_with (fail)
        refine (Cs _).mono ?_; rintro e' w' ⟨rfl, hf'⟩; replace hf := hf.trans0 hf'; clear hf'
        go_wp2_with (fail)
        refine (Cw _).mono ?_; rintro e' w' ⟨rfl, hf'⟩; replace hf := hf.trans0 hf'; clear hf'
        go_wp2_with (fail)
        refine (Cn _).mono ?_; rintro e' w' ⟨rfl, hf'⟩; replace hf := hf.trans0 hf'; clear hf'
        go_wp2_with (fail)
        go_ret
        exact ⟨by rfl, hf⟩
end Go.Proofs.Ytodcmamihnlbeaa
