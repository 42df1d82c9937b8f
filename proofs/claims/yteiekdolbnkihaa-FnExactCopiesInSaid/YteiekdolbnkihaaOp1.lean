/- The arguments' types as kinds: flat steps, blocks, numbers. -/
import Derived.Test.YteiekdolbnkihaaProg
import Derived.Test.YteiekdolbnkihaaLib5
import Derived.Test.YteiekdolbnkihaaTy2
set_option linter.unusedVariables false
namespace Go.Proofs.Yteiekdolbnkihaa.L
open Go.RowKit
theorem opensInt : Opens Try.prog 3 Rp.int := Opens.int Try.underlying3 (by kernel_rfl)
theorem opensInts : Opens Try.prog 28 (Rp.sl Rp.int) := Opens.slice opensInt Try.underlying28 (by kernel_rfl) (by decide)
theorem opensFlat : Opens Try.prog 23 flat :=
  Opens.struct (fs := _) (Opens.cons opensInt rfl (Opens.cons opensInt rfl (Opens.cons opensInt rfl (Opens.cons opensInt rfl (Opens.cons opensInt rfl (Opens.last opensInt rfl)))))) Try.underlying23 (by kernel_rfl) Fl.t (fun p => ⟨p.1, p.2.1, p.2.2.1, p.2.2.2.1, p.2.2.2.2.1, p.2.2.2.2.2⟩) (fun _ => rfl)
theorem opensFlats : Opens Try.prog 58 (Rp.sl flat) := Opens.slice opensFlat Try.underlying58 (by kernel_rfl) (by decide)
theorem opensBlock : Opens Try.prog 60 block :=
  Opens.struct (fs := _) (Opens.cons opensFlats rfl (Opens.cons opensInt rfl (Opens.cons opensInt rfl (Opens.last opensInts rfl)))) Try.underlying60 (by kernel_rfl) Bk.t (fun p => ⟨p.1, p.2.1, p.2.2.1, p.2.2.2⟩) (fun _ => rfl)
theorem opensBlocks : Opens Try.prog 38 (Rp.sl block) := Opens.slice opensBlock Try.underlying38 (by kernel_rfl) (by decide)
end Go.Proofs.Yteiekdolbnkihaa.L
