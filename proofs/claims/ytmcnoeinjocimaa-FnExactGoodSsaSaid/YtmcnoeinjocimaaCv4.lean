/- The laws' own copies of lists of lists. -/
import Derived.Test.YtmcnoeinjocimaaCv2
set_option linter.unusedVariables false
namespace Go.Proofs.Ytmcnoeinjocimaa.L
open Go.RowKit
theorem rd_ints {w : World} {F : Nat → Prop} {v : Value} {l : List (List Int)} (h : Rp.Rd (Rp.sl Rp.int) w F v l) : ∃ A c, v = .slice A l.length c ∧ l.length ≤ c ∧ c ≤ 9223372036854775807 ∧
    (l = [] ∨ ∃ b o, A = some ⟨b, o, none⟩ ∧ b < w.heap.size ∧ ∀ (k : Nat) (hk : k < l.length), ∃ u, w.cell? ⟨b, o + k, none⟩ = some u ∧ Rp.Rd Rp.int w F u l[k]) := by
  obtain ⟨A, c, rfl, hl, hm, h⟩ := h
  refine ⟨A, c, rfl, hl, hm, ?_⟩
  rcases h with h | ⟨b, o, rfl, _, hb, h⟩
  · exact .inl h
  · refine .inr ⟨b, o, rfl, hb, fun k hk => ?_⟩
    obtain ⟨cs, ⟨u, rfl, hK⟩, hc⟩ := h k l[k] (List.getElem?_eq_getElem hk)
    have := hc 0 _ rfl
    rw [show k * (Rp.sl Rp.int).sz + 0 = k from by show k * 1 + 0 = k; omega] at this
    exact ⟨u, this, hK⟩
theorem infoInts : (Try.prog.info? 35).map (fun i => (i.zero, i.size, i.bytes)) = some (some (.slice none 0 0), 1, 24) := by kernel_rfl
theorem Ow.ints_at {ap bp : Bool} {e e2 g n c : Nat} {w : World} {F : Nat → Prop} {l : List (List Int)} (h : Ow ap e (Rp.ow bp e2 Rp.int) w F (.slice (some ⟨g, 0, none⟩) n c) l) {k : Nat} (hk : k < l.length) :
    ∃ u, w.cell? ⟨g, k, none⟩ = some u ∧ ∀ o, w.frozen? ⟨g, o, none⟩ = false := by
  obtain ⟨g', c', cs, he, _, _, ⟨u, rfl, _⟩, hc, hf⟩ := h.at_ (List.getElem?_eq_getElem hk)
  injection he with he _ _
  injection he with he
  injection he with he _
  subst he
  have := hc 0 _ rfl
  rw [show k * (Rp.ow bp e2 Rp.int).sz + 0 = k from by show k * 1 + 0 = k; omega] at this
  exact ⟨u, this, hf⟩
set_option maxHeartbeats 1000000 in
theorem toIntSS_calls {F : Nat → Prop} (v : Value) (l : List (List Int)) (w : World) (h : Rp.Rd (Rp.sl Rp.int) w F v l) (hl : l.length ≤ 1048576) (hx : ∀ x ∈ l, x.length ≤ 1048576) :
    Calls Try.prog 113 #[v] w fun e w' => ∃ v', e = .returned v' ∧ Ow true 35 (Rp.ow true 3 Rp.int) w' (fun k => w.heap.size ≤ k) v' l ∧ Below w.heap.size w w' := by
  obtain ⟨A, c, rfl, hlc, hcm, hrow⟩ := rd_ints h
  have hmk := mk_all Try.underlying41 infoInts l.length (by omega) (by omega)
  go_enter Try.func113, Try.ntmps113
  go_wp2
  have hstart : Ow true 35 (Rp.ow true 3 Rp.int) (w.alloc (.cells (madeCells #[.slice none 0 0] l.length) 35)) (fun k => w.heap.size ≤ k) (.slice (some ⟨w.heap.size, 0, none⟩) l.length l.length) (List.replicate l.length []) :=
    ow_alloc1 (r := Rp.ow true 3 Rp.int) w (z := .slice none 0 0) (by omega) rfl (fun _ => ⟨_, rfl, Ow.nil _ _ _ _ _⟩)
  go_loopw [4] (fun i wr => ∃ k : Nat, k ≤ l.length ∧ i = .int .i64 k ∧ Ow true 35 (Rp.ow true 3 Rp.int) wr (fun k => w.heap.size ≤ k) (.slice (some ⟨w.heap.size, 0, none⟩) l.length l.length) (l.take k ++ List.replicate (l.length - k) []) ∧ Below w.heap.size w wr) (fun i _ => l.length - (intOf i).toNat)
  case atStart =>
    exact ⟨0, Nat.zero_le _, rfl, by simpa using hstart, below_new _⟩
  case round =>
    obtain ⟨k, hk, rfl, HO, HB⟩ := hrel
    by_cases hlt : k < l.length
    · rcases hrow with rfl | ⟨b, o, rfl, hb, hcell⟩
      · simp at hlt
      obtain ⟨u, c1, hu⟩ := hcell k hlt
      replace c1 := cell_below HB c1
      replace hu := hu.below HB
      clear hcell hstart
      have ⟨A0, k0, hu0, _⟩ := hu
      subst hu0
      have hy := hx l[k] (List.getElem_mem hlt)
      go_wp2_with fail
      refine (toIntS_calls _ l[k] _ hu hy).mono ?_
      rintro e w1 ⟨v', rfl, HK, hb1⟩
      have HO1 := HO.bound.below hb1
      obtain ⟨p, r0, f2⟩ := HO1.ints_at (k := k) (by simp; omega)
      obtain ⟨A1, k1, rfl, _, _⟩ := HK.form
      go_wp2_with fail
      go_roundw
      case rel =>
        refine ⟨k + 1, by omega, by go_num, ?_, (below_then HB hb1).setCell (by simp) _⟩
        rw [← set_take_rep _ hlt]
        exact (HO1.put1 rfl (by simp; omega) ⟨_, rfl, HK⟩ (fun q hq hq2 => by omega)).mono (fun q hq => by have := HB.size; omega)
      case measure => simp [intOf]; omega
    · obtain rfl : k = l.length := by omega
      clear hstart
      go_wp2
      go_ret
      exact ⟨_, rfl, by simpa using HO, HB⟩
end Go.Proofs.Ytmcnoeinjocimaa.L
