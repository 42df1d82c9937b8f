/- The arguments' types as kinds: sections, whose texts are no longer than any machine's; what a row's list gives of the library's two tables. -/
import Derived.Test.YteiekdolbnkihaaDoorLib5
import Derived.Test.YteiekdolbnkihaaDoorNm1
import Derived.Test.YteiekdolbnkihaaDoorRows
import Derived.Lib.LaidU8T
import Derived.Lib.LaidIn
import Derived.PinnedBridge
set_option linter.unusedVariables false
set_option linter.unusedSimpArgs false
namespace Go.Proofs.YteiekdolbnkihaaDoor.L
open Go.RowKit Go.ChangeShapes Go.WideShapes
def strB : Rp ByteArray where
  sz := 1
  K := fun _ _ x cs => cs = [.string x] ∧ x.size ≤ 9223372036854775807
  len := fun h => by rw [h.1]; rfl
  one := fun h u hu => by
    rw [h.1] at hu
    rw [List.mem_singleton.1 hu]
    rfl
  mono := fun _ h => h
  move := fun _ h => h
  bound := fun h => h
theorem opensInt : Opens Tryd.prog 3 Rp.int := Opens.int Tryd.underlying3 (by kernel_rfl)
theorem opensStrB : Opens Tryd.prog 9 strB := ⟨by kernel_rfl, fun enc w fuel cs x h => by
  obtain ⟨n, rfl, _, hn⟩ := DataW.trod_string Tryd.underlying9 h
  exact ⟨n, rfl, by unfold maxLen at hn; omega⟩⟩
def sectB : Rp Se := (Rp.int.pair strB).iso Se.t
theorem sectB_open {w : World} {F : Nat → Prop} {x : Se} {cs : List Value} (h : sectB.K w F x cs) : cs = [.int .i64 x.id, .string x.body] ∧ x.body.size ≤ 9223372036854775807 := by
  obtain ⟨_, _, rfl, rfl, rfl, h⟩ := h
  exact ⟨rfl, h⟩
theorem opensSectB : Opens Tryd.prog 23 sectB :=
  Opens.struct (fs := _) (Opens.cons opensInt rfl (Opens.last opensStrB rfl)) Tryd.underlying23 (by kernel_rfl) Se.t (fun p => ⟨p.1, p.2⟩) (fun _ => rfl)
theorem opensSectsB : Opens Tryd.prog 30 (Rp.sl sectB) := Opens.slice opensSectB Tryd.underlying30 (by kernel_rfl) (by decide)
theorem rd_sectB {w : World} {F : Nat → Prop} {v : Value} {l : List Se} (h : Rp.Rd sectB w F v l) : Rp.Rd sect w F v l ∧ ∀ x ∈ l, x.body.size ≤ 9223372036854775807 := by
  obtain ⟨A, c, rfl, hl, hm, h⟩ := h
  rcases h with rfl | ⟨b, o, rfl, hF, hb, h⟩
  · exact ⟨⟨A, c, rfl, hl, hm, .inl rfl⟩, fun x hx => by cases hx⟩
  · refine ⟨⟨_, c, rfl, hl, hm, .inr ⟨b, o, rfl, hF, hb, fun i x hx => ?_⟩⟩, fun x hx => ?_⟩
    · obtain ⟨cs, hK, hc⟩ := h i x hx
      obtain ⟨rfl, _⟩ := sectB_open hK
      exact ⟨_, sect_mk w F x, hc⟩
    · obtain ⟨i, hi, rfl⟩ := List.getElem_of_mem hx
      obtain ⟨cs, hK, hc⟩ := h i _ (List.getElem?_eq_getElem hi)
      exact (sectB_open hK).2
theorem tabs_of {W : World} (hL : laidMet Tryd.prog [("unicode/utf8.acceptRanges", Rows.laid_unicode_utf8_acceptRanges), ("unicode/utf8.first", Rows.laid_unicode_utf8_first)] W) : Tabs W := by
  have h1 := Lib.laidMet.reads hL (.head _)
  have h2 := Lib.laidMet.reads hL (.tail _ (.head _))
  rw [show (Rows.laid_unicode_utf8_acceptRanges : DataW Unit) = Lib.acceptData by kernel_rfl] at h1
  rw [show (Rows.laid_unicode_utf8_first : DataW Unit) = Lib.firstData from Pinned.utf8First_eq] at h2
  exact utf8Tabs_of_readsT (U8Types.of196 Tryd.laysValid) ⟨by kernel_rfl, by kernel_rfl, by kernel_rfl, by kernel_rfl, by kernel_rfl, by kernel_rfl, by kernel_rfl⟩ h2 h1
/-- A world for the witness: the settled one, the two tables as their initialisers lay them. -/
noncomputable def laidWorld (os : Os) : World :=
  let w0 := World.holding Tryd.prog os ⟨#[], #[], []⟩
  let put (h : Array Obj) (g : Nat) (cs : Array Value) : Array Obj := h.modify g fun
    | .cells _ t frozen => .cells cs t frozen
    | o => o
  let h1 := put w0.heap 0 (Lib.firstTab.map fun z => Value.int .u8 z).toArray
  let h2 := put h1 1 ((List.range 16).flatMap fun i => [Value.int .u8 (Lib.accLo i), Value.int .u8 (Lib.accHi i)]).toArray
  { w0 with heap := h2 }
end Go.Proofs.YteiekdolbnkihaaDoor.L
