/- The library's SortFunc of placed fields: the shelf's contract laid at this program. -/
import Derived.Test.YtbjilpemckoioaaBases
import Derived.Shelf.SlSortCmp.WholeK
namespace Go.Proofs.Ytbjilpemckoioaa
open Go.Shelf Go.RowKit Go.Lib Go.Sort Go.Proofs
set_option linter.unusedVariables false
def renPut : Go.Shelf.Ren := ⟨fun | 6 => 93 | 14 => 144 | 15 => 137 | 20 => 174 | 21 => 175 | 22 => 176 | 23 => 177 | 24 => 178 | 25 => 179 | 26 => 180 | 27 => 181 | 28 => 169 | 29 => 170 | 46 => 200 | 47 => 191 | 48 => 192 | 49 => 201 | 50 => 202 | 57 => 205 | n => n, fun | 0 => 0 | 3 => 3 | 4 => 4 | 5 => 5 | 9 => 9 | 22 => 135 | 25 => 145 | 39 => 193 | 45 => 209 | 46 => 210 | 50 => 215 | 53 => 218 | 55 => 220 | 66 => 233 | 70 => 237 | 76 => 245 | 77 => 246 | 24 => 143 | n => n, fun | n => n⟩
theorem laysPut : SlLaysF0.n6 Try.prog renPut where
  mixed := by kernel_rfl
  f6 := ⟨Try.f93.name, by kernel_rfl, Try.func93.trans (congrArg some (by kernel_rfl))⟩
  f14 := ⟨Try.f144.name, by kernel_rfl, Try.func144.trans (congrArg some (by kernel_rfl))⟩
  f15 := Try.func137.trans (congrArg some (by kernel_rfl))
  f20 := ⟨Try.f174.name, by kernel_rfl, Try.func174.trans (congrArg some (by kernel_rfl))⟩
  f21 := ⟨Try.f175.name, by kernel_rfl, Try.func175.trans (congrArg some (by kernel_rfl))⟩
  f22 := ⟨Try.f176.name, by kernel_rfl, Try.func176.trans (congrArg some (by kernel_rfl))⟩
  f23 := ⟨Try.f177.name, by kernel_rfl, Try.func177.trans (congrArg some (by kernel_rfl))⟩
  f24 := ⟨Try.f178.name, by kernel_rfl, Try.func178.trans (congrArg some (by kernel_rfl))⟩
  f25 := ⟨Try.f179.name, by kernel_rfl, Try.func179.trans (congrArg some (by kernel_rfl))⟩
  f26 := ⟨Try.f180.name, by kernel_rfl, Try.func180.trans (congrArg some (by kernel_rfl))⟩
  f27 := ⟨Try.f181.name, by kernel_rfl, Try.func181.trans (congrArg some (by kernel_rfl))⟩
  f28 := Try.func169.trans (congrArg some (by kernel_rfl))
  f29 := Try.func170.trans (congrArg some (by kernel_rfl))
  f46 := ⟨Try.f200.name, by kernel_rfl, Try.func200.trans (congrArg some (by kernel_rfl))⟩
  f47 := Try.func191.trans (congrArg some (by kernel_rfl))
  f48 := Try.func192.trans (congrArg some (by kernel_rfl))
  f49 := ⟨Try.f201.name, by kernel_rfl, Try.func201.trans (congrArg some (by kernel_rfl))⟩
  f50 := ⟨Try.f202.name, by kernel_rfl, Try.func202.trans (congrArg some (by kernel_rfl))⟩
  f57 := ⟨Try.f205.name, by kernel_rfl, Try.func205.trans (congrArg some (by kernel_rfl))⟩
  t0 := Try.underlying0
  a0 := Try.isAgg0
  z0 := Try.sizeOf0
  v0 := Try.zeroValue0
  t3 := Try.underlying3
  a3 := Try.isAgg3
  z3 := Try.sizeOf3
  v3 := Try.zeroValue3
  t4 := Try.underlying4
  a4 := Try.isAgg4
  z4 := Try.sizeOf4
  v4 := Try.zeroValue4
  t5 := Try.underlying5
  a5 := Try.isAgg5
  z5 := Try.sizeOf5
  v5 := Try.zeroValue5
  t9 := Try.underlying9
  a9 := Try.isAgg9
  z9 := Try.sizeOf9
  v9 := Try.zeroValue9
  t22 := Try.underlying135
  a22 := Try.isAgg135
  z22 := Try.sizeOf135
  v22 := Try.zeroValue135
  t25 := Try.underlying145
  a25 := Try.isAgg145
  z25 := Try.sizeOf145
  v25 := Try.zeroValue145
  t39 := Try.underlying193
  a39 := Try.isAgg193
  z39 := Try.sizeOf193
  v39 := Try.zeroValue193
  t45 := Try.underlying209
  a45 := Try.isAgg209
  z45 := Try.sizeOf209
  v45 := Try.zeroValue209
  t46 := Try.underlying210
  a46 := Try.isAgg210
  z46 := Try.sizeOf210
  v46 := Try.zeroValue210
  t50 := Try.underlying215
  a50 := Try.isAgg215
  z50 := Try.sizeOf215
  v50 := Try.zeroValue215
  t53 := Try.underlying218
  a53 := Try.isAgg218
  z53 := Try.sizeOf218
  v53 := Try.zeroValue218
  t55 := Try.underlying220
  a55 := Try.isAgg220
  z55 := Try.sizeOf220
  v55 := Try.zeroValue220
  t66 := Try.underlying233
  a66 := Try.isAgg233
  z66 := Try.sizeOf233
  v66 := Try.zeroValue233
  t70 := Try.underlying237
  a70 := Try.isAgg237
  z70 := Try.sizeOf237
  v70 := Try.zeroValue237
  t76 := Try.underlying245
  a76 := Try.isAgg245
  z76 := Try.sizeOf245
  v76 := Try.zeroValue245
  t77 := Try.underlying246
  a77 := Try.isAgg246
  z77 := Try.sizeOf246
  v77 := Try.zeroValue246
end Go.Proofs.Ytbjilpemckoioaa
