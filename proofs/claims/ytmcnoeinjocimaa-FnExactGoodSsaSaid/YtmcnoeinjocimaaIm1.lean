/- The program: what a flat step uses; where parts lead. -/
import Derived.Test.YtmcnoeinjocimaaSp5
import Derived.Test.YtmcnoeinjocimaaGf1
set_option linter.unusedVariables false
set_option linter.unusedSimpArgs false
namespace Go.Proofs.Ytmcnoeinjocimaa.L
open Go.RowKit
theorem hasDst_calls (x : Fl) (w : World) : Calls Try.prog 102 #[flV x] w fun e w' => e = .returned (.bool (fD x.op)) ∧ Below w.heap.size w w' := by
  have HC := Lib.hid (fun W => fieldsOf_calls x.op W)
  unfold fieldsV at HC
  generalize fD x.op = r1 at *
  unfold flV
  go_enter Try.func102, Try.ntmps102
  go_wp2_with fail
  refine (HC.out _).mono ?_
  rintro e w1 ⟨rfl, hb⟩
  have hb1 := below1 hb
  go_wp2
  go_ret
  exact ⟨rfl, hb1.alloc hb1.size _⟩
def usesI (x : Fl) : List Int := (if fA x.op then [x.a] else []) ++ (if fB x.op then [x.b] else [])
set_option maxHeartbeats 1000000 in
theorem usesI_calls (x : Fl) (w : World) : Calls Try.prog 121 #[flV x] w fun e w' => ∃ v', e = .returned v' ∧ Ow true 3 Rp.int w' (fun k => w.heap.size ≤ k) v' (usesI x) ∧ Below w.heap.size w w' := by
  have HC := Lib.hid (fun W => fieldsOf_calls x.op W)
  have HX : Hid (usesI x = (if fA x.op then [x.a] else []) ++ (if fB x.op then [x.b] else [])) := Lib.hid rfl
  unfold fieldsV at HC
  generalize usesI x = u at *
  generalize fA x.op = r1 at *
  generalize fB x.op = r2 at *
  generalize fD x.op = r3 at *
  unfold flV
  obtain ⟨W1, hW1⟩ : ∃ W1, W1 = (w.alloc (.cells #[.int .i64 x.op, .int .i64 x.dO, .int .i64 x.dst, .int .i64 x.a, .int .i64 x.b, .int .i64 x.n] 61)).alloc (.cells #[] 3) := ⟨_, rfl⟩
  have hb1 : Below w.heap.size w W1 := by rw [hW1]; exact (below_new _).alloc (by simp) _
  have k1 : W1.heap[w.heap.size]? = some (.cells #[.int .i64 x.op, .int .i64 x.dO, .int .i64 x.dst, .int .i64 x.a, .int .i64 x.b, .int .i64 x.n] 61 (0, 0)) := by rw [hW1]; exact heap_alloc2_old w _ _
  have k2 : W1.heap[w.heap.size + 1]? = some (.cells #[] 3 (0, 0)) := by rw [hW1]; exact heap_alloc2_new w _ _
  have HO := (ow_empty (ap := true) (r := Rp.int) k2).mono (G := fun q => w.heap.size + 1 ≤ q) (fun q hq => by omega)
  replace hW1 := Lib.hid hW1
  go_enter Try.func121, Try.ntmps121
  go_wp2_with fail
  rw [← hW1.out]
  refine (HC.out _).mono ?_
  rintro e w1 ⟨rfl, hb⟩
  clear hW1
  have HO1 := HO.bound.below hb
  have hb2 := below_then hb1 hb
  have k3 := blk_alloc (blk_below k1 hb) (.cells #[.bool r3, .bool r1, .bool r2, .bool (fN x.op), .bool (fT x.op)] 139)
  have k4 := heap_alloc_new w1 (.cells #[.bool r3, .bool r1, .bool r2, .bool (fN x.op), .bool (fT x.op)] 139)
  have hb3 := hb2.alloc hb2.size (.cells #[.bool r3, .bool r1, .bool r2, .bool (fN x.op), .bool (fT x.op)] 139)
  have HO2 := HO1.below (below_new (.cells #[.bool r3, .bool r1, .bool r2, .bool (fN x.op), .bool (fT x.op)] 139))
  have hz := hb.size
  have hz1 := blk_lt k2
  clear hb hb1 hb2 k1 k2 HO HO1 HC
  have hz4 := blk_lt k4
  cases r1
  · cases r2
    · have HU : Hid (u = []) := HX
      clear HX
      go_wp2
      go_ret
      exact ⟨_, rfl, by rw [HU.out]; exact HO2.mono (fun q hq => by have := hq.1; omega), hb3⟩
    · have HU : Hid (u = [x.b]) := HX
      clear HX
      obtain ⟨x1, f1⟩ := cell_of_block k3
      have x14 := x1 4
      simp at x14
      obtain ⟨x2, f2⟩ := cell_of_block k4
      have x21 := x2 1
      have x22 := x2 2
      simp at x21 x22
      go_wp2_with (at_builtin; refine app_int (by rfl) _ _ (by rfl) (.slice (some ⟨w.heap.size + 1, 0, none⟩) 0 0) [] x.b (w1.heap.size + 1) (by simp) (by rfl) (by rfl) HO2 (by simp) ?_; intro A c w4 HO3 hg; have hb4 := below_grown hb3 hg (fun q hq => by have := (own_in HO2 (.inr hq)).1; omega) hb3.size; have HO4 := HO3.mono (G := fun q => w.heap.size ≤ q) (fun q hq => by have := hb3.size; rcases hq with hq | hq; have := hq.1; omega; simp at hq; omega))
      go_ret
      exact ⟨_, rfl, by rw [HU.out]; exact HO4, hb4⟩
  · obtain ⟨x1, f1⟩ := cell_of_block k3
    have x13 := x1 3
    simp at x13
    obtain ⟨x2, f2⟩ := cell_of_block k4
    have x21 := x2 1
    have x22 := x2 2
    simp at x21 x22
    have tok1 : True := trivial
    cases r2
    · have HU : Hid (u = [x.a]) := HX
      clear HX
      go_wp2_with (at_builtin; have _t := tok1; refine app_int (by rfl) _ _ (by rfl) (.slice (some ⟨w.heap.size + 1, 0, none⟩) 0 0) [] x.a (w1.heap.size + 1) (by simp) (by rfl) (by rfl) HO2 (by simp) ?_; intro A c w4 HO3 hg; have hb4 := below_grown hb3 hg (fun q hq => by have := (own_in HO2 (.inr hq)).1; omega) hb3.size; have k5 := grown_blk hg k4 (own_ne HO2 (fun h => by have := h.1; have := h.2; omega)); obtain ⟨x5, f5⟩ := cell_of_block k5; have x52 := x5 2; simp at x52; clear tok1; have HO4 := HO3.mono (G := fun q => w.heap.size ≤ q) (fun q hq => by have := hb3.size; rcases hq with hq | hq; have := hq.1; omega; simp at hq; omega))
      go_ret
      exact ⟨_, rfl, by rw [HU.out]; exact HO4, hb4⟩
    · have HU : Hid (u = [x.a, x.b]) := HX
      clear HX
      go_wp2_with (first | (at_builtin; have _t := tok1; refine app_int (by rfl) _ _ (by rfl) (.slice (some ⟨w.heap.size + 1, 0, none⟩) 0 0) [] x.a (w1.heap.size + 1) (by simp) (by rfl) (by rfl) HO2 (by simp) ?_; intro A c w4 HO3 hg; have hb4 := below_grown hb3 hg (fun q hq => by have := (own_in HO2 (.inr hq)).1; omega) hb3.size; have k5 := grown_blk hg k4 (own_ne HO2 (fun h => by have := h.1; have := h.2; omega)); obtain ⟨x5, f5⟩ := cell_of_block k5; have x52 := x5 2; have k6 := grown_blk hg k3 (own_ne HO2 (fun h => by have := h.1; have := h.2; omega)); obtain ⟨x6, f6⟩ := cell_of_block k6; have x64 := x6 4; simp at x52 x64; clear tok1; have HO4 := HO3.mono (G := fun q => w.heap.size ≤ q) (fun q hq => by have := hb3.size; rcases hq with hq | hq; have := hq.1; omega; simp at hq; omega)) | (at_builtin; refine app_int (by rfl) _ _ (by rfl) (.slice A 1 c) [x.a] x.b w4.heap.size rfl (by rfl) (by rfl) HO4 (by simp) ?_; intro A' c' w5 HO5 hg5; have hb5 := below_grown hb4 hg5 (fun q hq => own_in HO4 (.inr hq)) hb4.size; have HO6 := HO5.mono (G := fun q => w.heap.size ≤ q) (fun q hq => by have := hb4.size; rcases hq with hq | hq; exact hq; omega)))
      go_ret
      exact ⟨_, rfl, by rw [HU.out]; exact HO6, hb5⟩
set_option maxHeartbeats 2000000 in
theorem nextsOf_calls {F : Nat → Prop} (s : Sa) (vparts : Value) (w : World) (hs : Rp.Rd part w F vparts s.parts) (hn : s.parts.length ≤ 1048576) :
    Calls Try.prog 78 #[saV s vparts] w fun e w' => ∃ v', e = .returned v' ∧ Rp.Rd (Rp.sl Rp.int) w' (fun q => F q ∧ q < w.heap.size ∨ w.heap.size ≤ q) v' (s.parts.map (fun p : Pt => p.next)) ∧ Below w.heap.size w w' := by
  replace hs := hs.bound
  obtain ⟨A, c, rfl, hlc, hcm, hrow⟩ := rd_part hs
  have hmk := mk_all Try.underlying41 infoInts s.parts.length (by omega) (by omega)
  unfold saV
  have hml : (s.parts.map (fun p : Pt => p.next)).length = s.parts.length := List.length_map _
  have HML := Lib.hid hml
  clear hml
  go_enter Try.func78, Try.ntmps78
  go_wp2
  obtain ⟨W1, hW1⟩ : ∃ W1, W1 = w.alloc (Obj.cells #[Value.slice A s.parts.length c, .int .i64 s.values] 29) := ⟨_, rfl⟩
  have hs1 : W1.heap.size = w.heap.size + 1 := by rw [hW1]; simp
  have hO := (ow_alloc1 (e := 35) (n := s.parts.length) (r := Rp.sl Rp.int) (z := .slice none 0 0) (x0 := []) W1 (by omega) rfl (fun w => ⟨_, rfl, Rp.Rd.nil _ _ _⟩)).loose
  have hB : Below w.heap.size w (W1.alloc (.cells (madeCells #[.slice none 0 0] s.parts.length) 35)) := by rw [hW1]; exact (below_new _).alloc (by simp) _
  rw [hs1] at hO
  rw [← hW1]
  clear hW1 hs1
  generalize W1.alloc (.cells (madeCells #[.slice none 0 0] s.parts.length) 35) = W2 at *
  go_loopw [13] (fun i wr => ∃ k : Nat, k ≤ s.parts.length ∧ i = .int .i64 k ∧ Ow false 35 (Rp.sl Rp.int) wr (fun q => F q ∧ q < w.heap.size ∨ w.heap.size + 1 ≤ q) (.slice (some ⟨w.heap.size + 1, 0, none⟩) s.parts.length s.parts.length) ((s.parts.map (fun p : Pt => p.next)).take k ++ List.replicate (s.parts.length - k) []) ∧ Below w.heap.size w wr) (fun i _ => s.parts.length - (intOf i).toNat)
  case atStart => exact ⟨0, Nat.zero_le _, rfl, by simpa using hO.mono (fun q hq => .inr hq), hB⟩
  case round =>
    clear hO hB
    obtain ⟨k, hk, rfl, HO, HB⟩ := hrel
    rename World => wo
    by_cases hlt : k < s.parts.length
    · rcases hrow with hnil | ⟨b, o, rfl, hb, hcell⟩
      · rw [hnil] at hlt; simp at hlt
      obtain ⟨_, _, _, _, hp, ⟨A1, c1, rfl, _⟩, ⟨A2, c2, rfl, _⟩, hxn, ⟨A4, c4, rfl, _⟩⟩ := hcell k hlt
      obtain ⟨q0, q1, q2, q3, q4, q5⟩ := partAt_below hp HB
      have hxn := hxn.below HB
      have HT : Hid ((((s.parts.map (fun p : Pt => p.next)).take k ++ List.replicate (s.parts.length - k) [])).set k s.parts[k].next = (s.parts.map (fun p : Pt => p.next)).take (k + 1) ++ List.replicate (s.parts.length - (k + 1)) []) := Lib.hid (by
        have hl1 : ((s.parts.map (fun p : Pt => p.next)).take k).length = k := by rw [List.length_take, HML.out]; omega
        rw [List.set_append_right _ _ (by omega), hl1, Nat.sub_self, List.take_succ_eq_append_getElem (by rw [HML.out]; exact hlt), List.getElem_map, List.append_assoc]
        congr 1
        obtain ⟨d, hd⟩ : ∃ d, s.parts.length - k = d + 1 := ⟨s.parts.length - (k + 1), by omega⟩
        rw [hd, show s.parts.length - (k + 1) = d by omega]
        rfl)
      have hkl : k < (((s.parts.map (fun p : Pt => p.next)).take k ++ List.replicate (s.parts.length - k) [])).length := by rw [List.length_append, List.length_take, HML.out, List.length_replicate]; omega
      clear hcell hp
      generalize s.parts[k] = p at *
      have ⟨A3, c3, hv3, _⟩ := hxn
      subst hv3
      have i0 : (0 : Int) ≤ (k : Int) := Int.natCast_nonneg _
      have i1 : (k : Int) < (s.parts.length : Int) := by omega
      have hbx := below_new (w := wo) (.cells #[.slice A1 p.params.length c1, .slice A2 p.code.length c2, .int .i64 p.go, .int .i64 p.test, .slice A3 p.next.length c3, .slice A4 p.args.length c4] 54)
      have HO1 := HO.below hbx
      obtain ⟨u, cu, fu, hu⟩ := HO1.sl_at hkl
      have HP := HO1.putS1 rfl hkl (y := p.next) (u := .slice A3 p.next.length c3) ⟨_, rfl, hxn.below hbx⟩ (fun q hq => by have := hq.2; omega)
      have HP := HP.mono (G := fun q => F q ∧ q < w.heap.size ∨ w.heap.size + 1 ≤ q) (fun q hq => hq.elim id .inl)
      rw [HT.out] at HP
      have HB1 : Below w.heap.size w ((wo.alloc (.cells #[.slice A1 p.params.length c1, .slice A2 p.code.length c2, .int .i64 p.go, .int .i64 p.test, .slice A3 p.next.length c3, .slice A4 p.args.length c4] 54)).setCell ⟨w.heap.size + 1, k, none⟩ (.slice A3 p.next.length c3)) := (HB.alloc HB.size _).setCell (by simp) _
      clear hkl HT hu hxn HO HO1
      replace HP := Lib.hid HP
      go_wp2
      go_roundw
      case rel => exact ⟨k + 1, by omega, by go_num, HP.out, HB1⟩
      case measure => simp [intOf]; omega
    · obtain rfl : k = s.parts.length := by omega
      have HF : Rp.Rd (Rp.sl Rp.int) wo (fun q => F q ∧ q < w.heap.size ∨ w.heap.size ≤ q) (.slice (some ⟨w.heap.size + 1, 0, none⟩) s.parts.length s.parts.length) (s.parts.map (fun p : Pt => p.next)) := by
        have := HO.rd.mono (G := fun q => F q ∧ q < w.heap.size ∨ w.heap.size ≤ q) (fun q hq => hq.imp id (fun h => by omega))
        rw [List.take_of_length_le (by rw [HML.out]; omega), Nat.sub_self, List.replicate_zero, List.append_nil] at this
        exact this
      clear HO hrow
      go_wp2
      go_ret
      exact ⟨_, rfl, HF, HB⟩
end Go.Proofs.Ytmcnoeinjocimaa.L
