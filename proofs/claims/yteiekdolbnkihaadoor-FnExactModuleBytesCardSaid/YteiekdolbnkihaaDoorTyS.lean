/- The kind of a section: a number and a text. -/
import Derived.Test.YteiekdolbnkihaaDoorW1
set_option linter.unusedVariables false
set_option linter.unusedSimpArgs false
namespace Go.Proofs.YteiekdolbnkihaaDoor.L
open Go.RowKit
structure Se where
  id : Int
  body : ByteArray
deriving DecidableEq
def seV (x : Se) : Value := .agg #[.int .i64 x.id, .string x.body]
def Se.t (x : Se) : Int × ByteArray := (x.id, x.body)
def sect : Rp Se := (Rp.int.pair Rp.str).iso Se.t
theorem sect_flat : sect.Flat := Rp.Flat.iso (Rp.Flat.pair (Rp.Flat.lit _ _) (Rp.Flat.lit _ _)) _
theorem sect_open {w : World} {F : Nat → Prop} {x : Se} {cs : List Value} (h : sect.K w F x cs) : cs = [.int .i64 x.id, .string x.body] := by
  obtain ⟨_, _, rfl, rfl, rfl⟩ := h
  rfl
theorem sect_mk (w : World) (F : Nat → Prop) (x : Se) : sect.K w F x [.int .i64 x.id, .string x.body] :=
  ⟨[_], _, rfl, rfl, rfl⟩
/-- A section in two cells. -/
def SeAt (w : World) (b o : Nat) (x : Se) : Prop :=
  w.cell? ⟨b, o, none⟩ = some (.int .i64 x.id) ∧ w.cell? ⟨b, o + 1, none⟩ = some (.string x.body)
theorem SeAt.below {w w1 : World} {b o : Nat} {x : Se} (h : SeAt w b o x) (hb : Below w.heap.size w w1) : SeAt w1 b o x :=
  ⟨cell_below hb h.1, cell_below hb h.2⟩
theorem seAt_of {w : World} {b o : Nat} {x : Se} (h : ∀ j u, ([.int .i64 x.id, .string x.body] : List Value)[j]? = some u → w.cell? ⟨b, o + j, none⟩ = some u) : SeAt w b o x :=
  ⟨h 0 _ rfl, h 1 _ rfl⟩
theorem rd_sect {w : World} {F : Nat → Prop} {v : Value} {l : List Se} (h : Rp.Rd sect w F v l) : ∃ A c, v = .slice A l.length c ∧ l.length ≤ c ∧ c ≤ 9223372036854775807 ∧
    (l = [] ∨ ∃ b o, A = some ⟨b, o, none⟩ ∧ b < w.heap.size ∧ ∀ (k : Nat) (hk : k < l.length), SeAt w b (o + k * 2) l[k]) := by
  obtain ⟨A, c, rfl, hl, hm, h⟩ := h
  refine ⟨A, c, rfl, hl, hm, ?_⟩
  rcases h with h | ⟨b, o, rfl, _, hb, h⟩
  · exact .inl h
  · refine .inr ⟨b, o, rfl, hb, fun k hk => ?_⟩
    obtain ⟨cs, hK, hc⟩ := h k l[k] (List.getElem?_eq_getElem hk)
    obtain rfl := sect_open hK
    refine seAt_of fun j u hu => ?_
    rw [Nat.add_assoc]
    exact hc j u hu
theorem Ow.sect_at {ap : Bool} {e g n c : Nat} {w : World} {F : Nat → Prop} {l : List Se} (h : Ow ap e sect w F (.slice (some ⟨g, 0, none⟩) n c) l) {k : Nat} (hk : k < l.length) :
    SeAt w g (k * 2) l[k] ∧ ∀ o, w.frozen? ⟨g, o, none⟩ = false := by
  obtain ⟨g', c', cs, he, _, _, hK, hc, hf⟩ := h.at_ (List.getElem?_eq_getElem hk)
  injection he with he _ _
  injection he with he
  injection he with he _
  subst he
  obtain rfl := sect_open hK
  exact ⟨seAt_of hc, hf⟩
end Go.Proofs.YteiekdolbnkihaaDoor.L
