/- The laws' markText. -/
import Derived.Test.YteiekdolbnkihaaDoorProg
import Derived.Test.YteiekdolbnkihaaDoorTyS
import Derived.Laws.Concat
import Derived.Laws.IdiomStrings
set_option linter.unusedVariables false
set_option linter.unusedSimpArgs false
namespace Go.Proofs.YteiekdolbnkihaaDoor.L
open Go.RowKit
def b1 (n : Nat) : ByteArray := ⟨#[UInt8.ofNat n]⟩
def digs : Nat → Nat → ByteArray → ByteArray
  | 0, _, out => out
  | f + 1, k, out => if k = 0 then out else digs f (k / 10) (b1 (48 + k % 10) ++ out)
theorem digs_same : ∀ {f g k : Nat} {out : ByteArray}, k ≤ f → k ≤ g → digs f k out = digs g k out
  | 0, 0, _, _, _, _ => rfl
  | 0, g + 1, k, out, h, _ => by obtain rfl : k = 0 := by omega
                                 rw [digs, digs, if_pos rfl]
  | f + 1, 0, k, out, _, h => by obtain rfl : k = 0 := by omega
                                 rw [digs, digs, if_pos rfl]
  | f + 1, g + 1, k, out, h1, h2 => by
    rw [digs, digs]
    split
    · rfl
    · exact digs_same (by omega) (by omega)
def mt (k : Nat) : ByteArray := if k = 0 then ⟨#[109, 48]⟩ else ByteArray.mk #[109] ++ digs k k (ByteArray.mk #[])
/-- 'string(b)' of one byte. -/
theorem conv1 (W : World) (g : Nat) (z : Int) (n : Nat) (hz : z = (n : Int)) (hn : n < 256) (hc : W.cell? ⟨g, 0, none⟩ = some (.int .u8 z)) :
    (convert 46 9 (.slice (some ⟨g, 0, none⟩) 1 1)).run Tryd.prog W = .ok (.string (b1 n)) W := by
  subst hz
  exact run_convert_bytes_back W 46 9 5 ⟨g, 0, none⟩ 1 [UInt8.ofNat n] Tryd.underlying46 Tryd.underlying5 Tryd.underlying9 (fun j hj => by
    obtain rfl : j = 0 := by simp at hj; omega
    simp only [List.getElem_cons_zero, UInt8.toNat_ofNat']
    rw [show n % 2 ^ 8 = n by omega]
    exact hc)
theorem conv1_new (w : World) (z : Int) (n : Nat) (hz : z = (n : Int)) (hn : n < 256) :
    (convert 46 9 (.slice (some ⟨w.heap.size, 0, none⟩) 1 1)).run Tryd.prog (w.alloc (.cells #[.int .u8 z] 5)) = .ok (.string (b1 n)) (w.alloc (.cells #[.int .u8 z] 5)) :=
  conv1 _ _ z n hz hn ((cell_of_block (heap_alloc_new w _)).1 0)
set_option maxRecDepth 100000 in
set_option maxHeartbeats 4000000 in
theorem markText_calls (k : Nat) (w : World) (hk : k ≤ 1099511627776) :
    Calls Tryd.prog 56 #[.int .i64 k] w fun e w' => e = .returned (.string (mt k)) ∧ Below w.heap.size w w' := by
  by_cases h0 : k = 0
  · subst h0
    go_enter Tryd.func56, Tryd.ntmps56
    go_wp2
    go_ret
    exact ⟨rfl, Below.refl _ _⟩
  · have HM : Hid (mt k = ByteArray.mk #[109] ++ digs k k (ByteArray.mk #[])) := Lib.hid (by rw [mt, if_neg h0])
    have h1 : ¬ (k : Int) ≤ 0 := by omega
    go_enter Tryd.func56, Tryd.ntmps56
    go_wp2
    go_loopw [3, 0] (fun t n wr => ∃ (q : Nat) (o : ByteArray), n = .int .i64 q ∧ t = .string o ∧ q + o.size ≤ 1099511627776 ∧ Hid (digs q q o = digs k k (ByteArray.mk #[])) ∧ Below w.heap.size w wr) (fun _ n _ => (intOf n).toNat)
    case atStart => exact ⟨k, ByteArray.mk #[], rfl, rfl, hk, Lib.hid rfl, Below.refl _ _⟩
    case round =>
      obtain ⟨q, o, rfl, rfl, hq, HD, HB⟩ := hrel
      by_cases hq0 : q = 0
      · subst hq0
        have hsz : (ByteArray.mk #[109]).size + o.size ≤ 9223372036854775807 := by show 1 + o.size ≤ _; omega
        go_wp2
        go_ret
        exact ⟨by rw [HM.out, ← HD.out]; rfl, HB⟩
      · have h2 : 0 < (q : Int) := by omega
        have hcv := conv1_new wr (48 + (q : Int) % 10) (48 + q % 10) (by omega) (by omega)
        have hsz : (b1 (48 + q % 10)).size + o.size ≤ 9223372036854775807 := by show 1 + o.size ≤ _; omega
        go_wp2
        have hsz2 : (b1 (48 + q % 10) ++ o).size = 1 + o.size := by rw [ByteArray.size_append]; rfl
        go_roundw
        case rel =>
          refine ⟨q / 10, _, by go_num, rfl, by omega, Lib.hid ?_, below_then HB (below_new _)⟩
          rw [← HD.out]
          obtain ⟨m, hm⟩ : ∃ m, q = m + 1 := ⟨q - 1, by omega⟩
          conv => rhs; rw [hm, digs, if_neg (by omega), ← hm]
          exact digs_same (Nat.le_refl _) (by omega)
        case measure => simp [intOf]; omega
/-- Marks in order. -/
def marks : Nat → Nat → List Se
  | _, 0 => []
  | k, n + 1 => ⟨k, mt (k + 1)⟩ :: marks (k + 2) n
theorem marks_len : ∀ (n k : Nat), (marks k n).length = n
  | 0, _ => rfl
  | n + 1, k => by rw [marks, List.length_cons, marks_len n]
theorem marks_get : ∀ (n k i : Nat) (h : i < (marks k n).length), (marks k n)[i] = ⟨(k + 2 * i : Nat), mt (k + 2 * i + 1)⟩
  | 0, k, i, h => by simp [marks] at h
  | n + 1, k, 0, h => rfl
  | n + 1, k, i + 1, h => by
    have := marks_get n (k + 2) i (by simpa [marks] using h)
    simp only [marks, List.getElem_cons_succ]
    rw [this, show k + 2 + 2 * i = k + 2 * (i + 1) by omega]
theorem marks_snoc : ∀ (n k : Nat), marks k (n + 1) = marks k n ++ [⟨(k + 2 * n : Nat), mt (k + 2 * n + 1)⟩]
  | 0, k => rfl
  | n + 1, k => by
    have := marks_snoc n (k + 2)
    rw [marks, this, show k + 2 + 2 * n = k + 2 * (n + 1) by omega]
    rfl
theorem set_mid {α : Type} {a b : List α} {x : α} {q : Nat} (ha : a.length = q) (hb : 0 < b.length) : (a ++ b).set q x = a ++ [x] ++ b.drop 1 := by
  obtain ⟨y, t, rfl⟩ : ∃ y t, b = y :: t := by cases b with | nil => simp at hb | cons y t => exact ⟨y, t, rfl⟩
  rw [← ha, List.set_append_right _ _ (Nat.le_refl _), Nat.sub_self]
  simp
theorem setCell_self {w : World} {b o : Nat} {v : Value} (h : w.cell? ⟨b, o, none⟩ = some v) : w.setCell ⟨b, o, none⟩ v = w := by
  unfold World.setCell
  congr 1
  apply Array.ext_getElem?
  intro i
  rw [Array.getElem?_modify]
  split
  · rename_i hi
    have hi : b = i := hi
    subst hi
    unfold World.cell? at h
    simp only at h
    cases hb : w.heap[b]? with
    | none => rw [hb] at h; cases h
    | some ob =>
      rw [hb] at h
      cases ob with
      | cells c t f =>
        simp at h
        simp
        apply Array.ext_getElem?
        intro j
        rw [Array.getElem?_setIfInBounds]
        split
        · rename_i hj
          subst hj
          split
          · exact h.symm
          · rw [Array.getElem?_eq_none (by omega)]
        · rfl
      | _ => cases h
  · rfl
theorem Ow.set_id {ap : Bool} {e g n c : Nat} {w : World} {F : Nat → Prop} {l : List Se} (h : Ow ap e sect w F (.slice (some ⟨g, 0, none⟩) n c) l) {i : Nat} (hi : i < l.length) (z : Int) :
    Ow ap e sect (w.setCell ⟨g, i * 2, none⟩ (.int .i64 z)) F (.slice (some ⟨g, 0, none⟩) n c) (l.set i ⟨z, l[i].body⟩) := by
  have hp := (h.put (G := fun _ => False) rfl hi (sect_mk w _ ⟨z, l[i].body⟩) (fun _ h => h.elim)).mono (fun k hk => hk.elim id (fun h => h.elim))
  have hat := (h.sect_at hi).1.2
  have he : putRow w g (i * sect.sz) [.int .i64 z, .string l[i].body] = w.setCell ⟨g, i * 2, none⟩ (.int .i64 z) := by
    show (w.setCell ⟨g, i * 2, none⟩ (.int .i64 z)).setCell ⟨g, i * 2 + 1, none⟩ (.string l[i].body) = _
    refine setCell_self ?_
    rw [World.cell?_setCell_other (a := ⟨g, i * 2, none⟩) (b := ⟨g, i * 2 + 1, none⟩) (h := by intro h; injection h with _ h; omega)]
    exact hat
  rw [he] at hp
  exact hp
theorem Ow.set_body {ap : Bool} {e g n c : Nat} {w : World} {F : Nat → Prop} {l : List Se} (h : Ow ap e sect w F (.slice (some ⟨g, 0, none⟩) n c) l) {i : Nat} (hi : i < l.length) (t : ByteArray) :
    Ow ap e sect (w.setCell ⟨g, i * 2 + 1, none⟩ (.string t)) F (.slice (some ⟨g, 0, none⟩) n c) (l.set i ⟨l[i].id, t⟩) := by
  have hp := (h.put (G := fun _ => False) rfl hi (sect_mk w _ ⟨l[i].id, t⟩) (fun _ h => h.elim)).mono (fun k hk => hk.elim id (fun h => h.elim))
  have hat := (h.sect_at hi).1.1
  have he : putRow w g (i * sect.sz) [.int .i64 l[i].id, .string t] = w.setCell ⟨g, i * 2 + 1, none⟩ (.string t) := by
    show (w.setCell ⟨g, i * 2, none⟩ (.int .i64 l[i].id)).setCell ⟨g, i * 2 + 1, none⟩ (.string t) = _
    rw [setCell_self hat]
  rw [he] at hp
  exact hp
set_option maxRecDepth 100000 in
set_option maxHeartbeats 4000000 in
theorem markSectionS_calls {F : Nat → Prop} (g n c : Nat) (l : List Se) (w : World) (B : Nat) (w0 : World) (HO : Ow true 27 sect w F (.slice (some ⟨g, 0, none⟩) n c) l) (hl : l.length ≤ 1048576) (hB : B ≤ g) (HB : Below B w0 w) :
    Calls Tryd.prog 27 #[.slice (some ⟨g, 0, none⟩) n c, .int .i64 1] w fun e w' => e = .returned (.int .i64 (1 + 2 * l.length : Nat)) ∧ Ow true 27 sect w' F (.slice (some ⟨g, 0, none⟩) n c) (marks 1 l.length) ∧ Below B w0 w' := by
  obtain rfl := HO.len_eq
  go_enter Tryd.func27, Tryd.ntmps27
  go_wp2
  go_loopw [1, 5] (fun k i wr => ∃ q : Nat, q ≤ l.length ∧ k = .int .i64 (1 + 2 * q : Nat) ∧ i = .int .i64 q ∧ Ow true 27 sect wr F (.slice (some ⟨g, 0, none⟩) l.length c) (marks 1 q ++ l.drop q) ∧ Below B w0 wr) (fun _ i _ => l.length - (intOf i).toNat)
  case atStart => exact ⟨0, Nat.zero_le _, rfl, rfl, by simpa [marks] using HO, HB⟩
  case round =>
    obtain ⟨q, hq, rfl, rfl, HOr, HBr⟩ := hrel
    by_cases hlt : q < l.length
    · have hlen : (marks 1 q ++ l.drop q).length = l.length := by simp [marks_len]; omega
      have hqlt : q < (marks 1 q ++ l.drop q).length := by omega
      obtain ⟨⟨c0, c1⟩, f0⟩ := HOr.sect_at hqlt
      have f1 := f0 (q * 2)
      have HO1 := HOr.set_id hqlt (1 + 2 * (q : Int))
      have HB1 := HBr.setCell (p := ⟨g, q * 2, none⟩) hB (.int .i64 (1 + 2 * (q : Int)))
      have i0 : (0 : Int) ≤ (q : Int) := Int.natCast_nonneg _
      have i1 : (q : Int) < (l.length : Int) := by omega
      clear c1 f0
      go_wp2_with fail
      generalize wr.setCell ⟨g, q * 2, none⟩ (.int .i64 (1 + 2 * (q : Int))) = W1 at HO1 HB1 ⊢
      rw [show (1 + 2 * (q : Int) + 1) = ((1 + 2 * q + 1 : Nat) : Int) by omega]
      refine (markText_calls (1 + 2 * q + 1) W1 (by omega)).mono ?_
      rintro e w1 ⟨rfl, hb1⟩
      have HO2 := HO1.below hb1
      have HB2 : Below B w0 w1 := HB1.trans (hb1.mono (Nat.le_of_lt (Nat.lt_of_le_of_lt hB (World.block_lt_of_cell? _ _ (HO1.sect_at (k := q) (by rw [List.length_set]; exact hqlt)).1.1))))
      have hq1 : q < ((marks 1 q ++ l.drop q).set q ⟨1 + 2 * (q : Int), (marks 1 q ++ l.drop q)[q].body⟩).length := by rw [List.length_set]; exact hqlt
      obtain ⟨⟨c0, c1⟩, f0⟩ := HO2.sect_at hq1
      have f2 := f0 (q * 2 + 1)
      have HO3 := HO2.set_body hq1 (mt (1 + 2 * q + 1))
      clear f0
      go_wp2
      go_roundw
      case rel =>
        refine ⟨q + 1, by omega, by go_num, by go_num, ?_, HB2.setCell (p := ⟨g, q * 2 + 1, none⟩) hB _⟩
        have hml := marks_len q 1
        have e1 : ((marks 1 q ++ l.drop q).set q ⟨1 + 2 * (q : Int), (marks 1 q ++ l.drop q)[q].body⟩).set q ⟨((marks 1 q ++ l.drop q).set q ⟨1 + 2 * (q : Int), (marks 1 q ++ l.drop q)[q].body⟩)[q].id, mt (1 + 2 * q + 1)⟩ = marks 1 (q + 1) ++ l.drop (q + 1) := by
          rw [List.set_set, List.getElem_set_self, set_mid hml (by simp; omega), marks_snoc, List.drop_drop, show q + 1 = 1 + q by omega]
          congr 4
          try omega
        rw [← e1]
        exact HO3
      case measure => simp [intOf]; omega
    · obtain rfl : q = l.length := by omega
      go_wp2
      go_ret
      exact ⟨rfl, by simpa using HOr, HBr⟩
end Go.Proofs.YteiekdolbnkihaaDoor.L
