/- strings.Join's contract, laid over this program: the table of numbers, and the facts that it asks. -/
import Derived.Test.YtajcdaclbammaaaDoorMem
import Derived.Shelf.Strings.OnBuilder
namespace Go.Proofs.YtajcdaclbammaaaDoor
open Go.Shelf Go.RowKit

def jnRen : Ren := ⟨fun | 156 => 17 | 165 => 30 | 166 => 31 | 169 => 32 | 240 => 38 | 241 => 39 | 276 => 44 | 277 => 45 | n => n, fun | 0 => 0 | 3 => 3 | 4 => 4 | 9 => 9 | 20 => 20 | 31 => 39 | 37 => 46 | 70 => 52 | 72 => 54 | 75 => 57 | 76 => 58 | 127 => 63 | 164 => 71 | 5 => 5 | 80 => 60 | n => n, fun n => n⟩
set_option maxRecDepth 100000 in
theorem jnLay : Lays.n156 Tryd.prog jnRen := {
  mixed := by kernel_rfl,
  f156 := Tryd.func17.trans (congrArg some (by kernel_rfl)),
  f165 := Tryd.func30.trans (congrArg some (by kernel_rfl)),
  f166 := Tryd.func31.trans (congrArg some (by kernel_rfl)),
  f169 := Tryd.func32.trans (congrArg some (by kernel_rfl)),
  f240 := Tryd.func38.trans (congrArg some (by kernel_rfl)),
  f241 := Tryd.func39.trans (congrArg some (by kernel_rfl)),
  f276 := Tryd.func44.trans (congrArg some (by kernel_rfl)),
  f277 := Tryd.func45.trans (congrArg some (by kernel_rfl)),
  t0 := Tryd.underlying0,
  a0 := Tryd.isAgg0,
  z0 := Tryd.sizeOf0,
  v0 := Tryd.zeroValue0,
  t3 := Tryd.underlying3,
  a3 := Tryd.isAgg3,
  z3 := Tryd.sizeOf3,
  v3 := Tryd.zeroValue3,
  t4 := Tryd.underlying4,
  a4 := Tryd.isAgg4,
  z4 := Tryd.sizeOf4,
  v4 := Tryd.zeroValue4,
  t9 := Tryd.underlying9,
  a9 := Tryd.isAgg9,
  z9 := Tryd.sizeOf9,
  v9 := Tryd.zeroValue9,
  t20 := Tryd.underlying20,
  a20 := Tryd.isAgg20,
  z20 := Tryd.sizeOf20,
  v20 := Tryd.zeroValue20,
  t31 := Tryd.underlying39,
  a31 := Tryd.isAgg39,
  z31 := Tryd.sizeOf39,
  v31 := Tryd.zeroValue39,
  t37 := Tryd.underlying46,
  a37 := Tryd.isAgg46,
  z37 := Tryd.sizeOf46,
  v37 := Tryd.zeroValue46,
  t70 := Tryd.underlying52,
  a70 := Tryd.isAgg52,
  z70 := Tryd.sizeOf52,
  v70 := Tryd.zeroValue52,
  t72 := Tryd.underlying54,
  a72 := Tryd.isAgg54,
  z72 := Tryd.sizeOf54,
  v72 := Tryd.zeroValue54,
  t75 := Tryd.underlying57,
  a75 := Tryd.isAgg57,
  z75 := Tryd.sizeOf57,
  v75 := Tryd.zeroValue57,
  t76 := Tryd.underlying58,
  a76 := Tryd.isAgg58,
  z76 := Tryd.sizeOf58,
  v76 := Tryd.zeroValue58,
  t127 := Tryd.underlying63,
  a127 := Tryd.isAgg63,
  z127 := Tryd.sizeOf63,
  v127 := Tryd.zeroValue63,
  t164 := Tryd.underlying71,
  a164 := Tryd.isAgg71,
  z164 := Tryd.sizeOf71,
  v164 := Tryd.zeroValue71 }
theorem jnExtra : Builder.Extra Tryd.prog jnRen := {
  sizeBuilder := by kernel_rfl,
  liesBuilder := by kernel_rfl,
  t5 := Tryd.underlying5,
  a5 := Tryd.isAgg5,
  z5 := Tryd.sizeOf5,
  v5 := Tryd.zeroValue5,
  infoByte := by kernel_rfl,
  cellsByte := by kernel_rfl,
  sizeByte := by kernel_rfl,
  neB5 := by decide }
theorem c_Join (bk o c : Nat) (xs : List ByteArray) (sep : ByteArray) (w : World) (hcells : ∀ (j : Nat) x, xs[j]? = some x → w.cell? ⟨bk, o + j, none⟩ = some (.string x)) (hbk : bk < w.heap.size) (hN : xs.length ≤ 140737488355328) (hcap : xs.length ≤ c)
    (hlen : (Lib.join (xs.map (·.data.toList)) sep.data.toList).length ≤ 140737488355328) :
    Calls Tryd.prog 17 #[.slice (some ⟨bk, o, none⟩) xs.length c, .string sep] w fun e w' => e = .returned (.string ⟨(Lib.join (xs.map (·.data.toList)) sep.data.toList).toArray⟩) ∧ Below w.heap.size w w' :=
  Any.strings_Join jnLay jnExtra bk o c xs sep w hcells hbk hN hcap hlen
end Go.Proofs.YtajcdaclbammaaaDoor
