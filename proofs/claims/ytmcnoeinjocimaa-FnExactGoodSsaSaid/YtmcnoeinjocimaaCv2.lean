/- The laws' own copies of lists of flat steps. -/
import Derived.Test.YtmcnoeinjocimaaCv1
set_option linter.unusedVariables false
namespace Go.Proofs.Ytmcnoeinjocimaa.L
open Go.RowKit
theorem infoFlat : (Try.prog.info? 61).map (fun i => (i.zero, i.size, i.bytes)) = some (some (.agg #[.int .i64 0, .int .i64 0, .int .i64 0, .int .i64 0, .int .i64 0, .int .i64 0]), 6, 48) := by kernel_rfl
theorem toFlat_calls (x : Fl) (w : World) : Calls Try.prog 126 #[flV x] w fun e w' => e = .returned (flV x) ∧ Below w.heap.size w w' := by
  unfold flV
  go_enter Try.func126, Try.ntmps126
  go_wp2
  exact bodyPost_ret (v := flV x) (by simp [results, Try.results126, go_sem, flV]) rfl ⟨rfl, (((Below.refl _ _).alloc (Nat.le_refl _) _).alloc (by simp) _).alloc (by simp; omega) _⟩
def zFl : Fl := ⟨0, 0, 0, 0, 0, 0⟩
theorem set_take_rep {α : Type} (z : α) {l : List α} {k : Nat} (hk : k < l.length) : (l.take k ++ List.replicate (l.length - k) z).set k l[k] = l.take (k + 1) ++ List.replicate (l.length - (k + 1)) z := by
  apply List.ext_getElem?
  intro i
  rw [List.getElem?_set]
  by_cases h : k = i
  · subst h
    rw [if_pos rfl, if_pos (by simp; omega), List.getElem?_append_left (by simp; omega), List.getElem?_take, if_pos (by omega), List.getElem?_eq_getElem hk]
  · rw [if_neg h]
    by_cases h2 : i < k
    · rw [List.getElem?_append_left (by simp; omega), List.getElem?_append_left (by simp; omega), List.getElem?_take, List.getElem?_take, if_pos h2, if_pos (by omega)]
    · rw [List.getElem?_append_right (by simp; omega), List.getElem?_append_right (by simp; omega), List.getElem?_replicate, List.getElem?_replicate]
      simp only [List.length_take]
      congr 1
      simp; omega
set_option maxHeartbeats 1000000 in
theorem toFlatS_calls {F : Nat → Prop} (v : Value) (l : List Fl) (w : World) (h : Rp.Rd flat w F v l) (hl : l.length ≤ 1048576) :
    Calls Try.prog 112 #[v] w fun e w' => ∃ v', e = .returned v' ∧ Ow true 61 flat w' (fun k => w.heap.size ≤ k) v' l ∧ Below w.heap.size w w' := by
  obtain ⟨A, c, rfl, hlc, hcm, hrow⟩ := rd_flat h
  have hmk := mk_all Try.underlying52 infoFlat l.length (by omega) (by omega)
  go_enter Try.func112, Try.ntmps112
  go_wp2
  have hstart : Ow true 61 flat (w.alloc (.cells (madeCells #[.int .i64 0, .int .i64 0, .int .i64 0, .int .i64 0, .int .i64 0, .int .i64 0] (l.length * 6)) 61)) (fun k => w.heap.size ≤ k) (.slice (some ⟨w.heap.size, 0, none⟩) l.length l.length) (List.replicate l.length zFl) :=
    (ow_alloc (r := flat) w (by omega) rfl (by decide) (fun _ => flat_mk _ _ zFl)).mono (fun k hk => by omega)
  go_loopw [4] (fun i wr => ∃ k : Nat, k ≤ l.length ∧ i = .int .i64 k ∧ Ow true 61 flat wr (fun k => w.heap.size ≤ k) (.slice (some ⟨w.heap.size, 0, none⟩) l.length l.length) (l.take k ++ List.replicate (l.length - k) zFl) ∧ Below w.heap.size w wr) (fun i _ => l.length - (intOf i).toNat)
  case atStart =>
    exact ⟨0, Nat.zero_le _, rfl, by simpa using hstart, below_new _⟩
  case round =>
    obtain ⟨k, hk, rfl, HO, HB⟩ := hrel
    by_cases hlt : k < l.length
    · rcases hrow with rfl | ⟨b, o, rfl, hb, hcell⟩
      · simp at hlt
      have c1 := (hcell k hlt).below HB
      clear hcell hstart
      obtain ⟨q0, q1, q2, q3, q4, q5⟩ := c1
      go_wp2_with (go_at_call 126; refine (toFlat_calls l[k] _).mono ?_; rintro e w1 ⟨rfl, hb1⟩; unfold flV; have HO1 := HO.below hb1; obtain ⟨⟨r0, r1, r2, r3, r4, r5⟩, f2⟩ := HO1.flat_at (k := k) (by simp; omega))
      go_roundw
      case rel => exact ⟨k + 1, by omega, by go_num, by rw [← set_take_rep _ hlt]; exact (HO1.put (G := fun _ => False) rfl (by simp; omega) (flat_mk _ _ l[k]) (fun _ h => h.elim)).mono (fun k hk => hk.elim id (fun h => h.elim)), putRow_below (g := w.heap.size) (below_then HB hb1) (Nat.le_refl _) [.int .i64 l[k].op, .int .i64 l[k].dO, .int .i64 l[k].dst, .int .i64 l[k].a, .int .i64 l[k].b, .int .i64 l[k].n] (k * 6)⟩
      case measure => simp [intOf]; omega
    · obtain rfl : k = l.length := by omega
      clear hstart
      go_wp2
      go_ret
      exact ⟨_, rfl, by simpa using HO, HB⟩
end Go.Proofs.Ytmcnoeinjocimaa.L
