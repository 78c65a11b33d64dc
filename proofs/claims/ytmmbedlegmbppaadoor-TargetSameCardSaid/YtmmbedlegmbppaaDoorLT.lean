/- What the seat's functions ask of the world, out of what a row lists. -/
import Derived.Test.YtmmbedlegmbppaaDoorL1
import Derived.Test.YtmmbedlegmbppaaDoorRT
import Derived.Stop.LaidErr
namespace Go.Proofs.YtmmbedlegmbppaaDoor.X
open Go.RowKit Go.Shelf Go.Lib
theorem row195 (u : TypeId) (h : Tryd.prog.typeName? 3 u = some "*errors.errorString") : u = 195 :=
  typeName_ptr_named (nm := "errors.errorString") (by rw [show "*" ++ "errors.errorString" = "*errors.errorString" by decide]; kernel_rfl) (by kernel_rfl) (by decide) u (by rw [show "*" ++ "errors.errorString" = "*errors.errorString" by decide]; exact h)
theorem t_of {W : World} (h : laidMet Tryd.prog listed W) : R.T W := by
  obtain ⟨a, s, hv, _⟩ := laid_sentinel (g := 1) (ti := 76) (tp := 195) (te := 197) (ts := 9) h.tail.tail.tail.tail.tail (by kernel_rfl) (by kernel_rfl) Tryd.underlying76 row195 Tryd.underlying195 Tryd.underlying197 rfl rfl Tryd.underlying9 (by kernel_rfl) (by kernel_rfl)
  exact ⟨tabs_of h, 195, .pointer (some a), World.var?_cell (P := Tryd.prog) (n := "strconv.ErrSyntax") (by kernel_rfl) hv 0⟩
end Go.Proofs.YtmmbedlegmbppaaDoor.X
