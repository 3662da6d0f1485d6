/- The examples at the head of the laws, in plain Lean. -/
import Derived.Test.YtogmealngeejmaaDoorLexWt
namespace Go.Proofs.YtogmealngeejmaaDoor
open Go Go.RowKit

def Lx.aw1 : List Lx.Pc := [⟨2, [97, 58], 1, 1, 0, 2⟩, ⟨5, [51], 1, 4, 3, 4⟩, ⟨7, [43], 1, 6, 5, 6⟩, ⟨1, [120], 1, 8, 7, 8⟩, ⟨6, [121], 1, 9, 8, 11⟩]
def Lx.aw2 : List Lx.Pc := [⟨1, [97], 1, 1, 0, 1⟩, ⟨9, [46], 1, 2, 1, 2⟩, ⟨1, [98], 1, 3, 2, 3⟩, ⟨1, [97], 1, 5, 4, 5⟩, ⟨8, [46], 1, 6, 5, 6⟩, ⟨1, [98], 1, 8, 7, 8⟩, ⟨6, [105, 116, 39, 115], 1, 10, 9, 16⟩]
def Lx.aw2t : List Tok := [⟨1, [97], 1, 1⟩, ⟨9, [46], 1, 2⟩, ⟨1, [98], 1, 3⟩, ⟨1, [97], 1, 5⟩, ⟨8, [46], 1, 6⟩, ⟨1, [98], 1, 8⟩, ⟨6, [105, 116, 39, 115], 1, 10⟩]
theorem Lx.aw_dv1 : Lx.dv [97, 58, 32, 51, 32, 43, 32, 120, 39, 121, 39] = (Lx.aw1, 0, 0) := by kernel_rfl
theorem Lx.aw_dv2 : Lx.dv [97, 46, 98, 32, 97, 46, 32, 98, 32, 39, 105, 116, 39, 39, 115, 39, 32, 34, 110, 111, 34] = (Lx.aw2, 0, 0) := by kernel_rfl
theorem Lx.aw_dv3 : Lx.dv [97, 32, 35, 32, 98] = ([], 10, 2) := by kernel_rfl
theorem Lx.aw_dv6 : Lx.dv [97, 32, 39, 98, 39, 32] = ([⟨1, [97], 1, 1, 0, 1⟩, ⟨6, [98], 1, 3, 2, 5⟩], 0, 0) := by kernel_rfl
theorem Lx.aw_map : Lx.aw2.map tkOf = Lx.aw2t := by kernel_rfl
theorem Lx.aw_print : Lx.print Lx.aw2t = ([97, 46, 98, 32, 97, 32, 46, 32, 98, 32, 39, 105, 116, 39, 39, 115, 39], 0) := by kernel_rfl
theorem Lx.aw_edit : Lx.edit [97, 98, 32, 99, 100, 32, 101, 102] 3 5 [120] = ([97, 98, 32, 120, 32, 101, 102], 1, 1, 0, 0) := by kernel_rfl
theorem Lx.aw_k1 : Lx.kind [97, 116, 58, 80, 117, 116, 58] = 0 := by kernel_rfl
theorem Lx.aw_k2 : Lx.kind [39, 97, 39] = 6 := by kernel_rfl
theorem Lx.aw_k3 : Lx.kind [45] = 7 := by kernel_rfl

end Go.Proofs.YtogmealngeejmaaDoor
