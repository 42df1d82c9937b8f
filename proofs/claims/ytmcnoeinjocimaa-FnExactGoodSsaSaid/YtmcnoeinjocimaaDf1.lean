/- The program's define, as one step of a list of items. -/
import Derived.Test.YtmcnoeinjocimaaIm4
set_option linter.unusedVariables false
set_option linter.unusedSimpArgs false
namespace Go.Proofs.Ytmcnoeinjocimaa.L
open Go.RowKit
def codeItems : Int → List Fl → List (Int × Int)
  | _, [] => []
  | i, x :: t => if fD x.op then (x.dst, i) :: codeItems (i + 1) t else codeItems (i + 1) t
def parItems (l : List Int) : List (Int × Int) := l.map (fun x => (x, -1))
def itemsI (p : Pt) : List (Int × Int) := parItems p.params ++ codeItems 0 p.code
def okD (V v : Int) (D : List Int) : Prop := 12 ≤ v ∧ v < V ∧ D.getD v.toNat 0 < 0
instance (V v : Int) (D : List Int) : Decidable (okD V v D) := by unfold okD; infer_instance
def defI (V k : Int) : List Int → List Int → List (Int × Int) → Option (List Int × List Int)
  | D, T, [] => some (D, T)
  | D, T, (v, a) :: t => if okD V v D then defI V k (D.set v.toNat k) (T.set v.toNat a) t else none
def staticI (s : Sa) (p : Pt) : Bool := codeB p.code s.values && goB p.go p.test p.next s.values s.parts.length && !p.next.contains 0 && argsS s.parts p
def partI (s : Sa) (k : Int) (p : Pt) (D T : List Int) : Option (List Int × List Int) := if staticI s p && (decide (0 < k) || p.params.isEmpty) then defI s.values k D T (itemsI p) else none
theorem Chg.cell {A : Nat → Prop} {w w1 : World} {a : Addr} {u : Value} (h : Chg A w w1) (hc : w.cell? a = some u) (hA : ¬ A a.block) : w1.cell? a = some u := by
  have hlt := World.block_lt_of_cell? w a hc
  have := h.block a.block hlt hA
  unfold World.cell? at hc ⊢
  rw [this]
  exact hc
theorem partAt_chg {A : Nat → Prop} {w w1 : World} {b o : Nat} {x : Pt} {vparams vcode vnext vargs : Value} (h : partAt w b o x vparams vcode vnext vargs) (hb : Chg A w w1) (hA : ¬ A b) : partAt w1 b o x vparams vcode vnext vargs := ⟨hb.cell h.1 hA, hb.cell h.2.1 hA, hb.cell h.2.2.1 hA, hb.cell h.2.2.2.1 hA, hb.cell h.2.2.2.2.1 hA, hb.cell h.2.2.2.2.2 hA⟩
inductive DefRes (V v k a : Int) (D T : List Int) (N gd cd ga ca : Nat) (w : World) (e : Ending) (w' : World) : Prop where
  | no (he : e = .returned (.bool false)) (hn : Hid (¬ okD V v D)) (hw : w = w') : DefRes V v k a D T N gd cd ga ca w e w'
  | yes (he : e = .returned (.bool true)) (hy : Hid (okD V v D ∧ (D.set v.toNat k).length = N ∧ (T.set v.toNat a).length = N)) (hD : Ow true 3 Rp.int w' (fun q => q = gd) (.slice (some ⟨gd, 0, none⟩) N cd) (D.set v.toNat k)) (hT : Ow true 3 Rp.int w' (fun q => q = ga) (.slice (some ⟨ga, 0, none⟩) N ca) (T.set v.toNat a)) (hc : Chg (fun q => q = gd ∨ q = ga) w w') : DefRes V v k a D T N gd cd ga ca w e w'
theorem defineI_calls (V v k a : Int) (D T : List Int) (N vb gd cd ga ca : Nat) (vp vn vd : Value) (w : World) (hv : w.heap[vb]? = some (viewC vp V vn vd (.slice (some ⟨gd, 0, none⟩) N cd) (.slice (some ⟨ga, 0, none⟩) N ca)))
    (hD : Ow true 3 Rp.int w (fun q => q = gd) (.slice (some ⟨gd, 0, none⟩) N cd) D) (hT : Ow true 3 Rp.int w (fun q => q = ga) (.slice (some ⟨ga, 0, none⟩) N ca) T) (hdt : gd ≠ ga) (hDN : D.length = N) (hTN : T.length = N) (hN : (N : Int) = V) (hV : V ≤ 250) :
    Calls Try.prog 119 #[.pointer (some ⟨vb, 0, none⟩), .int .i64 v, .int .i64 k, .int .i64 a] w (DefRes V v k a D T N gd cd ga ca w) := by
  by_cases h : okD V v D
  · obtain ⟨n, rfl⟩ := Int.eq_ofNat_of_zero_le (by have := h.1; omega : 0 ≤ v)
    have h0 := h
    obtain ⟨h1, h2, h3⟩ := h
    have hn : n < D.length := by omega
    have hn2 : n < T.length := by omega
    rw [Int.toNat_natCast, List.getD_eq_getElem?_getD, List.getElem?_eq_getElem hn, Option.getD_some] at h3
    subst hDN
    refine (define_yes vb gd ga cd ca vp vn vd V D T n k a w (by rw [hTN]; exact hv) hD (by rw [hTN]; exact hT) hdt hN (by omega) hV (by omega) hn h3).mono ?_
    have key : ∀ W, Below w.heap.size w W → DefRes V n k a D T D.length gd cd ga ca w (.returned (.bool true)) ((W.setCell ⟨gd, n, none⟩ (.int .i64 k)).setCell ⟨ga, n, none⟩ (.int .i64 a)) := fun W hW => by
      refine .yes rfl (Lib.hid ⟨h0, by simp, by simp [hTN]⟩) ?_ ?_ ((Chg.of_below hW).trans ((Chg.set (A := fun q => q = gd ∨ q = ga) (.inl rfl)).trans (Chg.set (.inr rfl))))
      · exact ((hD.below hW).set1 rfl hn (y := k) (u := .int .i64 k) rfl).set_other (by omega)
      · exact ((hT.below hW).set_other (b := gd) (by omega)).set1 rfl hn2 (y := a) (u := .int .i64 a) rfl
    rintro e w' (⟨rfl, rfl⟩ | ⟨rfl, rfl⟩)
    · exact key w (Below.refl _ _)
    · exact key w.drew (below_drew (Below.refl _ _))
  · refine (define_no (FT := fun _ => False) vb vp vn vd _ V D _ v k a w hv (hD.rd) (by omega) hV ?_).mono ?_
    · rintro ⟨h1, h2, h3⟩
      refine h ⟨h1, h2, ?_⟩
      have hn : v.toNat < D.length := by omega
      rw [List.getD_eq_getElem?_getD, List.getElem?_eq_getElem hn]
      exact h3 hn
    · rintro e w' ⟨rfl, rfl⟩
      exact .no rfl (Lib.hid h) rfl
end Go.Proofs.Ytmcnoeinjocimaa.L
