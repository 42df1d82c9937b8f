/- The laws' own copies of lists of sections. -/
import Derived.Test.YteiekdolbnkihaaDoorProg
import Derived.Test.YteiekdolbnkihaaDoorTyS
set_option linter.unusedVariables false
set_option linter.unusedSimpArgs false
namespace Go.Proofs.YteiekdolbnkihaaDoor.L
open Go.RowKit
theorem infoSect : (Tryd.prog.info? 27).map (fun i => (i.zero, i.size, i.bytes)) = some (some (.agg #[.int .i64 0, .string ByteArray.empty]), 2, 24) := by kernel_rfl
theorem toSection_calls (x : Se) (w : World) : Calls Tryd.prog 14 #[seV x] w fun e w' => e = .returned (seV x) ∧ Below w.heap.size w w' := by
  unfold seV
  go_enter Tryd.func14, Tryd.ntmps14
  go_wp2
  exact bodyPost_ret (v := seV x) (by simp [results, Tryd.results14, go_sem, seV]) rfl ⟨rfl, (((Below.refl _ _).alloc (Nat.le_refl _) _).alloc (by simp) _).alloc (by simp; omega) _⟩
def zSe : Se := ⟨0, ByteArray.empty⟩
theorem set_take_rep {α : Type} (z : α) {l : List α} {k : Nat} (hk : k < l.length) : (l.take k ++ List.replicate (l.length - k) z).set k l[k] = l.take (k + 1) ++ List.replicate (l.length - (k + 1)) z := by
  apply List.ext_getElem?
  intro i
  rw [List.getElem?_set]
  by_cases h : k = i
  · subst h
    rw [if_pos rfl, if_pos (by simp; omega), List.getElem?_append_left (by simp; omega), List.getElem?_take, if_pos (by omega), List.getElem?_eq_getElem hk]
  · rw [if_neg h]
    by_cases h2 : i < k
    · rw [List.getElem?_append_left (by simp; omega), List.getElem?_append_left (by simp; omega), List.getElem?_take, List.getElem?_take, if_pos h2, if_pos (by omega)]
    · rw [List.getElem?_append_right (by simp; omega), List.getElem?_append_right (by simp; omega), List.getElem?_replicate, List.getElem?_replicate]
      simp only [List.length_take]
      congr 1
      simp; omega
set_option maxHeartbeats 1000000 in
theorem toSectionS_calls {F : Nat → Prop} (v : Value) (l : List Se) (w : World) (h : Rp.Rd sect w F v l) (hl : l.length ≤ 1048576) :
    Calls Tryd.prog 18 #[v] w fun e w' => ∃ v', e = .returned v' ∧ Ow true 27 sect w' (fun k => w.heap.size ≤ k) v' l ∧ Below w.heap.size w w' := by
  obtain ⟨A, c, rfl, hlc, hcm, hrow⟩ := rd_sect h
  have hmk := mk_all Tryd.underlying33 infoSect l.length (by omega) (by omega)
  go_enter Tryd.func18, Tryd.ntmps18
  go_wp2
  have hstart : Ow true 27 sect (w.alloc (.cells (madeCells #[.int .i64 0, .string ByteArray.empty] (l.length * 2)) 27)) (fun k => w.heap.size ≤ k) (.slice (some ⟨w.heap.size, 0, none⟩) l.length l.length) (List.replicate l.length zSe) :=
    (ow_alloc (r := sect) w (by omega) rfl (by decide) (fun _ => sect_mk _ _ zSe)).mono (fun k hk => by omega)
  go_loopw [4] (fun i wr => ∃ k : Nat, k ≤ l.length ∧ i = .int .i64 k ∧ Ow true 27 sect wr (fun k => w.heap.size ≤ k) (.slice (some ⟨w.heap.size, 0, none⟩) l.length l.length) (l.take k ++ List.replicate (l.length - k) zSe) ∧ Below w.heap.size w wr) (fun i _ => l.length - (intOf i).toNat)
  case atStart =>
    exact ⟨0, Nat.zero_le _, rfl, by simpa using hstart, below_new _⟩
  case round =>
    obtain ⟨k, hk, rfl, HO, HB⟩ := hrel
    by_cases hlt : k < l.length
    · rcases hrow with rfl | ⟨b, o, rfl, hb, hcell⟩
      · simp at hlt
      have c1 := (hcell k hlt).below HB
      clear hcell hstart
      obtain ⟨q0, q1⟩ := c1
      go_wp2_with (go_at_call 14; refine (toSection_calls l[k] _).mono ?_; rintro e w1 ⟨rfl, hb1⟩; unfold seV; have HO1 := HO.below hb1; obtain ⟨⟨r0, r1⟩, f2⟩ := HO1.sect_at (k := k) (by simp; omega))
      go_roundw
      case rel => exact ⟨k + 1, by omega, by go_num, by rw [← set_take_rep _ hlt]; exact (HO1.put (G := fun _ => False) rfl (by simp; omega) (sect_mk _ _ l[k]) (fun _ h => h.elim)).mono (fun k hk => hk.elim id (fun h => h.elim)), putRow_below (g := w.heap.size) (below_then HB hb1) (Nat.le_refl _) [.int .i64 l[k].id, .string l[k].body] (k * 2)⟩
      case measure => simp [intOf]; omega
    · obtain rfl : k = l.length := by omega
      clear hstart
      go_wp2
      go_ret
      exact ⟨_, rfl, by simpa using HO, HB⟩
end Go.Proofs.YteiekdolbnkihaaDoor.L
