/-
  slices.SortFunc at the program's objects: what the shelf's contract says of it.
-/
import Derived.Test.YtjaabbjobnfmmaaOutA
import Derived.Shelf.SlGeneric
import Derived.Shelf.SlSortCmp.WholeK
namespace Go.Proofs.Ytjaabbjobnfmmaa
open Go.Shelf Go.RowKit Go.Lib Go.Sort
def sortOb_ren : Go.Shelf.Ren := ⟨fun | 6 => 70 | 15 => 78 | 14 => 77 | 28 => 89 | 29 => 90 | 20 => 81 | 21 => 82 | 22 => 83 | 23 => 84 | 24 => 85 | 25 => 86 | 26 => 87 | 27 => 88 | 46 => 92 | 47 => 93 | 48 => 94 | 49 => 95 | 50 => 96 | 57 => 98 | n => n, fun | 22 => 37 | 24 => 30 | 25 => 71 | 3 => 3 | 39 => 107 | 0 => 0 | 53 => 119 | 55 => 121 | 4 => 4 | 46 => 112 | 45 => 111 | 50 => 116 | 5 => 5 | 9 => 9 | 66 => 122 | 70 => 126 | 76 => 128 | 77 => 129 | n => n, fun | n => n⟩
theorem sortOb : Go.Proofs.SlLaysF0.n6 Try.prog sortOb_ren := {
  mixed := by kernel_rfl
  f6 := ⟨Try.f70.name, by decide, Try.func70.trans (congrArg some (by kernel_rfl))⟩
  f14 := ⟨Try.f77.name, by decide, Try.func77.trans (congrArg some (by kernel_rfl))⟩
  f15 := Try.func78.trans (congrArg some (by kernel_rfl))
  f20 := ⟨Try.f81.name, by decide, Try.func81.trans (congrArg some (by kernel_rfl))⟩
  f21 := ⟨Try.f82.name, by decide, Try.func82.trans (congrArg some (by kernel_rfl))⟩
  f22 := ⟨Try.f83.name, by decide, Try.func83.trans (congrArg some (by kernel_rfl))⟩
  f23 := ⟨Try.f84.name, by decide, Try.func84.trans (congrArg some (by kernel_rfl))⟩
  f24 := ⟨Try.f85.name, by decide, Try.func85.trans (congrArg some (by kernel_rfl))⟩
  f25 := ⟨Try.f86.name, by decide, Try.func86.trans (congrArg some (by kernel_rfl))⟩
  f26 := ⟨Try.f87.name, by decide, Try.func87.trans (congrArg some (by kernel_rfl))⟩
  f27 := ⟨Try.f88.name, by decide, Try.func88.trans (congrArg some (by kernel_rfl))⟩
  f28 := Try.func89.trans (congrArg some (by kernel_rfl))
  f29 := Try.func90.trans (congrArg some (by kernel_rfl))
  f46 := ⟨Try.f92.name, by decide, Try.func92.trans (congrArg some (by kernel_rfl))⟩
  f47 := Try.func93.trans (congrArg some (by kernel_rfl))
  f48 := Try.func94.trans (congrArg some (by kernel_rfl))
  f49 := ⟨Try.f95.name, by decide, Try.func95.trans (congrArg some (by kernel_rfl))⟩
  f50 := ⟨Try.f96.name, by decide, Try.func96.trans (congrArg some (by kernel_rfl))⟩
  f57 := ⟨Try.f98.name, by decide, Try.func98.trans (congrArg some (by kernel_rfl))⟩
  t0 := Try.underlying0
  a0 := Try.isAgg0
  z0 := Try.sizeOf0
  v0 := Try.zeroValue0
  t3 := Try.underlying3
  a3 := Try.isAgg3
  z3 := Try.sizeOf3
  v3 := Try.zeroValue3
  t4 := Try.underlying4
  a4 := Try.isAgg4
  z4 := Try.sizeOf4
  v4 := Try.zeroValue4
  t5 := Try.underlying5
  a5 := Try.isAgg5
  z5 := Try.sizeOf5
  v5 := Try.zeroValue5
  t9 := Try.underlying9
  a9 := Try.isAgg9
  z9 := Try.sizeOf9
  v9 := Try.zeroValue9
  t22 := Try.underlying37
  a22 := Try.isAgg37
  z22 := Try.sizeOf37
  v22 := Try.zeroValue37
  t25 := Try.underlying71
  a25 := Try.isAgg71
  z25 := Try.sizeOf71
  v25 := Try.zeroValue71
  t39 := Try.underlying107
  a39 := Try.isAgg107
  z39 := Try.sizeOf107
  v39 := Try.zeroValue107
  t45 := Try.underlying111
  a45 := Try.isAgg111
  z45 := Try.sizeOf111
  v45 := Try.zeroValue111
  t46 := Try.underlying112
  a46 := Try.isAgg112
  z46 := Try.sizeOf112
  v46 := Try.zeroValue112
  t50 := Try.underlying116
  a50 := Try.isAgg116
  z50 := Try.sizeOf116
  v50 := Try.zeroValue116
  t53 := Try.underlying119
  a53 := Try.isAgg119
  z53 := Try.sizeOf119
  v53 := Try.zeroValue119
  t55 := Try.underlying121
  a55 := Try.isAgg121
  z55 := Try.sizeOf121
  v55 := Try.zeroValue121
  t66 := Try.underlying122
  a66 := Try.isAgg122
  z66 := Try.sizeOf122
  v66 := Try.zeroValue122
  t70 := Try.underlying126
  a70 := Try.isAgg126
  z70 := Try.sizeOf126
  v70 := Try.zeroValue126
  t76 := Try.underlying128
  a76 := Try.isAgg128
  z76 := Try.sizeOf128
  v76 := Try.zeroValue128
  t77 := Try.underlying129
  a77 := Try.isAgg129
  z77 := Try.sizeOf129
  v77 := Try.zeroValue129 }

instance : Inhabited Ob := ⟨zob⟩

theorem flatK_eq (L : List Ob) : flatK Ob.enc 3 L.toArray = (flat Ob.enc L).toArray := by
  refine ext_get! (by simp [flat_length enc3]) fun t ht => ?_
  have ht' : t < L.length * 3 := by simpa using ht
  rw [get_flatK _ _ _ t (by simpa using ht')]
  have hd : t / 3 < L.length := by omega
  have hm : t % 3 < 3 := by omega
  have e := flat_get enc3 L (t / 3) hd (t % 3) hm
  have e2 : t / 3 * 3 + t % 3 = t := by omega
  rw [e2] at e
  have e3 : L.toArray[t / 3]! = L[t / 3] := by simp [hd]
  rw [e3]
  have hl : t % 3 < (Ob.enc L[t / 3]).length := by rw [enc3]; exact hm
  rw [List.getElem!_eq_getElem?_getD, ← e]
  simp [List.getElem?_eq_getElem (show t < (flat Ob.enc L).length by rw [flat_length enc3]; exact ht')]

theorem swo_ob : SWO (ltOf ordI) := by
  have e : ∀ x y, ltOf ordI x y = x.lt y := fun x y => ordI_neg x y
  refine ⟨fun x => ?_, fun x y z h k => ?_, fun x y z h k => ?_⟩
  · rw [e]; exact Ob.lt_irrefl x
  · rw [e] at *; exact Ob.lt_trans h k
  · rw [e] at *; exact Ob.lt_ntrans h k

theorem cmpLays51 (blk off size : Nat) (w : World) : CmpLays Try.prog 51 #[] Ob.enc 3 ordI blk off size w := fun _ _ _ _ x y => ord_any x y _

theorem asc_of_sorted {L : List Ob} {d : Array Ob} (hn : L.Nodup) (hp : PermIn 0 L.toArray.size L.toArray d) (hs : SortedIn (ltOf ordI) 0 L.toArray.size d) : d.toList.Perm L ∧ Asc d.toList := by
  obtain ⟨h1, _, h3⟩ := hp
  have hsz : d.size = L.length := by simpa using h1
  have hperm : d.toList.Perm L := by
    have e1 : (d.extract 0 L.toArray.size) = d := by rw [← h1]; simp
    have e2 : (L.toArray.extract 0 L.toArray.size) = L.toArray := by simp
    rw [e1, e2] at h3
    exact h3
  refine ⟨hperm, ?_⟩
  have hnd : d.toList.Nodup := hperm.nodup_iff.2 hn
  unfold Asc
  rw [List.pairwise_iff_getElem]
  intro i j hi hj hij
  have hi' : i < d.size := by simpa using hi
  have hj' : j < d.size := by simpa using hj
  have := hs i j (Nat.zero_le _) hij (by rw [← h1]; exact hj')
  rw [getElem!_pos d i hi', getElem!_pos d j hj'] at this
  have hlt : (d[j]).lt d[i] = false := (ordI_neg _ _).symm.trans this
  have hne : d[j] ≠ d[i] := fun e => by
    have := (List.pairwise_iff_getElem.1 hnd) i j hi hj hij
    simp only [Array.getElem_toList] at this
    exact this e.symm
  simpa using Ob.lt_total hne hlt

end Go.Proofs.Ytjaabbjobnfmmaa
