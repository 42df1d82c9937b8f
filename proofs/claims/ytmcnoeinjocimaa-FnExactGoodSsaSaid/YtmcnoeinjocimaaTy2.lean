/- The kind of a block: flat steps, how it goes on. -/
import Derived.Test.YtmcnoeinjocimaaTy1
set_option linter.unusedVariables false
namespace Go.Proofs.Ytmcnoeinjocimaa.L
open Go.RowKit
structure Bk where
  code : List Fl
  go : Int
  test : Int
  next : List Int
deriving DecidableEq
def Bk.t (x : Bk) : List Fl × Int × Int × List Int := (x.code, x.go, x.test, x.next)
def bkV (vc : Value) (x : Bk) (vn : Value) : Value := .agg #[vc, .int .i64 x.go, .int .i64 x.test, vn]
/-- A block that is read. -/
def block : Rp Bk := ((Rp.sl flat).pair (Rp.int.pair (Rp.int.pair (Rp.sl Rp.int)))).iso Bk.t
theorem block_open {w : World} {F : Nat → Prop} {x : Bk} {cs : List Value} (h : block.K w F x cs) : ∃ vc vn, cs = [vc, .int .i64 x.go, .int .i64 x.test, vn] ∧ Rp.Rd flat w F vc x.code ∧ Rp.Rd Rp.int w F vn x.next := by
  obtain ⟨_, _, rfl, ⟨vc, rfl, hc⟩, _, _, rfl, rfl, _, _, rfl, rfl, ⟨vn, rfl, hn⟩⟩ := h
  exact ⟨vc, vn, rfl, hc, hn⟩
theorem block_mk {w : World} {F : Nat → Prop} {x : Bk} {vc vn : Value} (hc : Rp.Rd flat w F vc x.code) (hn : Rp.Rd Rp.int w F vn x.next) : block.K w F x [vc, .int .i64 x.go, .int .i64 x.test, vn] :=
  ⟨[_], _, rfl, ⟨vc, rfl, hc⟩, [_], _, rfl, rfl, [_], _, rfl, rfl, ⟨vn, rfl, hn⟩⟩
/-- A block of one's own, whose two rows are apart. -/
def blockA : Rp Bk := ((Rp.ow true 61 flat).pairA (Rp.int.pair (Rp.int.pair (Rp.ow true 3 Rp.int)))).iso Bk.t
theorem blockA_open {w : World} {F : Nat → Prop} {x : Bk} {cs : List Value} (h : blockA.K w F x cs) : ∃ G1 G2 : Nat → Prop, (∀ k, G1 k → F k) ∧ (∀ k, G2 k → F k) ∧ (∀ k, G1 k → ¬ G2 k) ∧ ∃ vc vn, cs = [vc, .int .i64 x.go, .int .i64 x.test, vn] ∧ Ow true 61 flat w G1 vc x.code ∧ Ow true 3 Rp.int w G2 vn x.next := by
  obtain ⟨G1, G2, h1, h2, h3, _, _, rfl, ⟨vc, rfl, hc⟩, _, _, rfl, rfl, _, _, rfl, rfl, ⟨vn, rfl, hn⟩⟩ := h
  exact ⟨G1, G2, h1, h2, h3, vc, vn, rfl, hc, hn⟩
theorem blockA_mk {w : World} {F G1 G2 : Nat → Prop} {x : Bk} {vc vn : Value} (h1 : ∀ k, G1 k → F k) (h2 : ∀ k, G2 k → F k) (h3 : ∀ k, G1 k → ¬ G2 k) (hc : Ow true 61 flat w G1 vc x.code) (hn : Ow true 3 Rp.int w G2 vn x.next) : blockA.K w F x [vc, .int .i64 x.go, .int .i64 x.test, vn] :=
  ⟨G1, G2, h1, h2, h3, [_], _, rfl, ⟨vc, rfl, hc⟩, [_], _, rfl, rfl, [_], _, rfl, rfl, ⟨vn, rfl, hn⟩⟩
theorem blockA_le : Rp.Le blockA block := Rp.Le.iso (Rp.Le.pairA (Rp.Le.ow (Rp.Le.refl _)) (Rp.Le.pair (Rp.Le.refl _) (Rp.Le.pair (Rp.Le.refl _) (Rp.Le.ow (Rp.Le.refl _))))) _
/-- The cells of a struct of four. -/
def At4 (w : World) (b o : Nat) (v0 v1 v2 v3 : Value) : Prop :=
  w.cell? ⟨b, o, none⟩ = some v0 ∧ w.cell? ⟨b, o + 1, none⟩ = some v1 ∧ w.cell? ⟨b, o + 2, none⟩ = some v2 ∧ w.cell? ⟨b, o + 3, none⟩ = some v3
theorem At4.below {w w1 : World} {b o : Nat} {v0 v1 v2 v3 : Value} (h : At4 w b o v0 v1 v2 v3) (hb : Below w.heap.size w w1) : At4 w1 b o v0 v1 v2 v3 :=
  ⟨cell_below hb h.1, cell_below hb h.2.1, cell_below hb h.2.2.1, cell_below hb h.2.2.2⟩
theorem at4_of {w : World} {b o : Nat} {v0 v1 v2 v3 : Value} (h : ∀ j u, ([v0, v1, v2, v3] : List Value)[j]? = some u → w.cell? ⟨b, o + j, none⟩ = some u) : At4 w b o v0 v1 v2 v3 :=
  ⟨h 0 _ rfl, h 1 _ rfl, h 2 _ rfl, h 3 _ rfl⟩
theorem rd_block {w : World} {F : Nat → Prop} {v : Value} {l : List Bk} (h : Rp.Rd block w F v l) : ∃ A c, v = .slice A l.length c ∧ l.length ≤ c ∧ c ≤ 9223372036854775807 ∧
    (l = [] ∨ ∃ b o, A = some ⟨b, o, none⟩ ∧ b < w.heap.size ∧ ∀ (k : Nat) (hk : k < l.length), ∃ vc vn, At4 w b (o + k * 4) vc (.int .i64 l[k].go) (.int .i64 l[k].test) vn ∧ Rp.Rd flat w F vc l[k].code ∧ Rp.Rd Rp.int w F vn l[k].next) := by
  obtain ⟨A, c, rfl, hl, hm, h⟩ := h
  refine ⟨A, c, rfl, hl, hm, ?_⟩
  rcases h with h | ⟨b, o, rfl, _, hb, h⟩
  · exact .inl h
  · refine .inr ⟨b, o, rfl, hb, fun k hk => ?_⟩
    obtain ⟨cs, hK, hc⟩ := h k l[k] (List.getElem?_eq_getElem hk)
    obtain ⟨vc, vn, rfl, h1, h2⟩ := block_open hK
    refine ⟨vc, vn, at4_of fun j u hu => ?_, h1, h2⟩
    rw [Nat.add_assoc]
    exact hc j u hu
end Go.Proofs.Ytmcnoeinjocimaa.L
