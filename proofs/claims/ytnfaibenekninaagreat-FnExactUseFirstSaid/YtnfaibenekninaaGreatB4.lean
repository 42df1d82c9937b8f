/- Joined texts, each of which was built by itself: Gf1 Im1 Cn1 Cn2 Sp3 Ty2 Sg0 Sp4. -/
import Derived.Test.YtnfaibenekninaaGreatB3
import Derived.Test.YtnfaibenekninaaGreatB1
import Derived.Test.YtnfaibenekninaaGreatProg
import Derived.Test.YtnfaibenekninaaGreatB2
import Derived.Deep.DeepMust
import Derived.BigGuardPart
set_option linter.unusedVariables false
set_option linter.unusedSimpArgs false
namespace Go.Proofs.YtnfaibenekninaaGreat.L
open Go.RowKit
theorem tests_calls (k : Int) (w : World) : Calls Tryz.prog 72 #[.int .i64 k] w fun e w' => e = .returned (.bool (k == 2 || k == 5)) ∧ w = w' := by
  go_enter Tryz.func72, Tryz.ntmps72
  go_wp2
  all_goals
    go_ret
    refine ⟨ret_bool ?_, rfl⟩
    simp_all
theorem codeOK1_calls (x : Fl) (many : Int) (ad : Addr) (w : World) (hc : w.cell? ad = some (.int .i64 many)) (h0 : 0 ≤ many) (h1 : many ≤ 1000) :
    Calls Tryz.prog 136 #[flV x, .pointer (some ad)] w fun e w' => e = .returned (.bool (!flatB x many)) ∧ Below w.heap.size w w' := by
  have hlt := World.block_lt_of_cell? w ad hc
  have HC := Lib.hid (fun W => flatOK_calls x many W h0 h1)
  generalize flatB x many = r at *
  unfold flV at *
  go_enter Tryz.func136, Tryz.ntmps136
  go_wp2_with (go_at_call 137; refine (HC.out _).mono ?_; rintro e w1 ⟨rfl, hb⟩; replace hb := below1 hb)
  go_ret
  exact ⟨rfl, hb⟩
theorem entersCodeOK1 : Enters Tryz.prog 136 := enters Tryz.func136 (by kernel_rfl) (by kernel_rfl)
def codeB (l : List Fl) (many : Int) : Bool := decide (l.length ≤ 60) && !l.any (fun x => !flatB x many)
theorem codeOK_calls {F : Nat → Prop} (v : Value) (l : List Fl) (many : Int) (w : World) (h : Rp.Rd flat w F v l) (h0 : 0 ≤ many) (h1 : many ≤ 1000) :
    Calls Tryz.prog 89 #[v, .int .i64 many] w fun e w' => e = .returned (.bool (codeB l many)) ∧ Below w.heap.size w w' := by
  have HX : Hid (codeB l many = (decide (l.length ≤ 60) && !l.any (fun x => !flatB x many))) := Lib.hid rfl
  have HC := hasFlat_calls v l 136 #[.pointer (some ⟨w.heap.size, 0, none⟩)] (fun x => !flatB x many) (w.alloc (.cells #[.int .i64 many] 3)) (h.below (below_new _)) entersCodeOK1
    (fun x _ W hW => codeOK1_calls x many _ W (by rw [(hW.cell (p := ⟨w.heap.size, 0, none⟩) (by simp))]; exact World.cell?_alloc_new _ _ _ _) h0 h1)
  generalize l.any (fun x => !flatB x many) = r at *
  have HC := Lib.hid HC
  obtain ⟨A, c, rfl, hlc, hcm, _⟩ := rd_flat h
  by_cases hl : l.length ≤ 60
  · have ht : decide ((l.length : Int) ≤ 60) = true := decide_eq_true (by omega)
    go_enter Tryz.func89, Tryz.ntmps89
    go_wp2_with (go_at_call 135; refine HC.out.mono ?_; rintro e w1 ⟨rfl, hb⟩; replace hb := below1 hb)
    go_ret
    refine ⟨ret_bool ?_, hb⟩
    rw [HX.out]
    simp [hl]
  · have ht : decide ((l.length : Int) ≤ 60) = false := decide_eq_false (by omega)
    go_enter Tryz.func89, Tryz.ntmps89
    go_wp2
    go_ret
    refine ⟨ret_bool ?_, below_new _⟩
    rw [HX.out]
    simp [hl]
theorem goOK1_calls (k blocks : Int) (ad : Addr) (w : World) (hc : w.cell? ad = some (.int .i64 blocks)) (h0 : 0 ≤ blocks) (h1 : blocks ≤ 1048576) :
    Calls Tryz.prog 139 #[.int .i64 k, .pointer (some ad)] w fun e w' => e = .returned (.bool (!inB k 0 (blocks - 1))) ∧ Below w.heap.size w w' := by
  go_enter Tryz.func139, Tryz.ntmps139
  go_wp2_with (go_at_call 58; refine (within_calls _ _ _ _).mono ?_; rintro e w1 ⟨rfl, rfl⟩)
  go_ret
  exact ⟨rfl, Below.refl _ _⟩
theorem entersGoOK1 : Enters Tryz.prog 139 := enters Tryz.func139 (by kernel_rfl) (by kernel_rfl)
def testB (k : Int) : Bool := k == 2 || k == 5
def goB (go test : Int) (next : List Int) (many blocks : Int) : Bool :=
  !(testB go && !inB test 0 (many - 1) || !testB go && test != 0) && !next.any (fun k => !inB k 0 (blocks - 1)) &&
  (if go == 1 then (next.length : Int) == 1 else if go == 2 then (next.length : Int) == 2 else if go == 5 then inB next.length 2 6 else (go == 3 || go == 4) && (next.length : Int) == 0)
set_option maxHeartbeats 2000000 in
theorem goOK_calls {F : Nat → Prop} (go test : Int) (v : Value) (next : List Int) (many blocks : Int) (w : World) (h : Rp.Rd Rp.int w F v next) (h0 : 0 ≤ many) (h1 : many ≤ 1000) (k0 : 0 ≤ blocks) (k1 : blocks ≤ 1048576) :
    Calls Tryz.prog 90 #[.int .i64 go, .int .i64 test, v, .int .i64 many, .int .i64 blocks] w fun e w' => e = .returned (.bool (goB go test next many blocks)) ∧ Below w.heap.size w w' := by
  have HX : Hid (goB go test next many blocks = (!(testB go && !inB test 0 (many - 1) || !testB go && test != 0) && !next.any (fun k => !inB k 0 (blocks - 1)) &&
  (if go == 1 then (next.length : Int) == 1 else if go == 2 then (next.length : Int) == 2 else if go == 5 then inB next.length 2 6 else (go == 3 || go == 4) && (next.length : Int) == 0))) := Lib.hid rfl
  have HC := hasInt_calls v next 139 #[.pointer (some ⟨w.heap.size, 0, none⟩)] (fun k => !inB k 0 (blocks - 1)) (w.alloc (.cells #[.int .i64 blocks] 3)) (h.below (below_new _)) entersGoOK1
    (fun x _ W hW => goOK1_calls x blocks _ W (by rw [(hW.cell (p := ⟨w.heap.size, 0, none⟩) (by simp))]; exact World.cell?_alloc_new _ _ _ _) k0 k1)
  generalize next.any (fun k => !inB k 0 (blocks - 1)) = r at *
  have HC := Lib.hid HC
  have HT := Lib.hid (fun W => tests_calls go W)
  have HTB : Hid ((go == 2 || go == 5) = testB go) := Lib.hid rfl
  obtain ⟨A, c, rfl, hlc, hcm, _⟩ := rd_int h
  clear h
  go_enter Tryz.func90, Tryz.ntmps90
  go_wp2_with (first | (go_at_call 138; refine HC.out.mono ?_; rintro e w1 ⟨rfl, hb⟩; replace hb := below1 hb) | (go_at_call 58; refine (within_calls _ _ _ _).mono ?_; rintro e w2 ⟨rfl, rfl⟩) | (go_at_call 72; refine (HT.out _).mono ?_; rintro e w2 ⟨rfl, rfl⟩; rw [HTB.out]))
  all_goals
    go_ret
    refine ⟨ret_bool ?_, (by first | exact hb | exact below_new _)⟩
    rw [HX.out]
    clear HX HC HT HTB
    simp_all
end Go.Proofs.YtnfaibenekninaaGreat.L

set_option linter.unusedVariables false
set_option linter.unusedSimpArgs false
namespace Go.Proofs.YtnfaibenekninaaGreat.L
open Go.RowKit
theorem hasDst_calls (x : Fl) (w : World) : Calls Tryz.prog 111 #[flV x] w fun e w' => e = .returned (.bool (fD x.op)) ∧ Below w.heap.size w w' := by
  have HC := Lib.hid (fun W => fieldsOf_calls x.op W)
  unfold fieldsV at HC
  generalize fD x.op = r1 at *
  unfold flV
  go_enter Tryz.func111, Tryz.ntmps111
  go_wp2_with fail
  refine (HC.out _).mono ?_
  rintro e w1 ⟨rfl, hb⟩
  have hb1 := below1 hb
  go_wp2
  go_ret
  exact ⟨rfl, hb1.alloc hb1.size _⟩
def usesI (x : Fl) : List Int := (if fA x.op then [x.a] else []) ++ (if fB x.op then [x.b] else [])
set_option maxHeartbeats 1000000 in
theorem usesI_calls (x : Fl) (w : World) : Calls Tryz.prog 113 #[flV x] w fun e w' => ∃ v', e = .returned v' ∧ Ow true 3 Rp.int w' (fun k => w.heap.size ≤ k) v' (usesI x) ∧ Below w.heap.size w w' := by
  have HC := Lib.hid (fun W => fieldsOf_calls x.op W)
  have HX : Hid (usesI x = (if fA x.op then [x.a] else []) ++ (if fB x.op then [x.b] else [])) := Lib.hid rfl
  unfold fieldsV at HC
  generalize usesI x = u at *
  generalize fA x.op = r1 at *
  generalize fB x.op = r2 at *
  generalize fD x.op = r3 at *
  unfold flV
  obtain ⟨W1, hW1⟩ : ∃ W1, W1 = (w.alloc (.cells #[.int .i64 x.op, .int .i64 x.dO, .int .i64 x.dst, .int .i64 x.a, .int .i64 x.b, .int .i64 x.n] 71)).alloc (.cells #[] 3) := ⟨_, rfl⟩
  have hb1 : Below w.heap.size w W1 := by rw [hW1]; exact (below_new _).alloc (by simp) _
  have k1 : W1.heap[w.heap.size]? = some (.cells #[.int .i64 x.op, .int .i64 x.dO, .int .i64 x.dst, .int .i64 x.a, .int .i64 x.b, .int .i64 x.n] 71 (0, 0)) := by rw [hW1]; exact heap_alloc2_old w _ _
  have k2 : W1.heap[w.heap.size + 1]? = some (.cells #[] 3 (0, 0)) := by rw [hW1]; exact heap_alloc2_new w _ _
  have HO := (ow_empty (ap := true) (r := Rp.int) k2).mono (G := fun q => w.heap.size + 1 ≤ q) (fun q hq => by omega)
  replace hW1 := Lib.hid hW1
  go_enter Tryz.func113, Tryz.ntmps113
  go_wp2_with fail
  rw [← hW1.out]
  refine (HC.out _).mono ?_
  rintro e w1 ⟨rfl, hb⟩
  clear hW1
  have HO1 := HO.bound.below hb
  have hb2 := below_then hb1 hb
  have k3 := blk_alloc (blk_below k1 hb) (.cells #[.bool r3, .bool r1, .bool r2, .bool (fN x.op), .bool (fT x.op)] 118)
  have k4 := heap_alloc_new w1 (.cells #[.bool r3, .bool r1, .bool r2, .bool (fN x.op), .bool (fT x.op)] 118)
  have hb3 := hb2.alloc hb2.size (.cells #[.bool r3, .bool r1, .bool r2, .bool (fN x.op), .bool (fT x.op)] 118)
  have HO2 := HO1.below (below_new (.cells #[.bool r3, .bool r1, .bool r2, .bool (fN x.op), .bool (fT x.op)] 118))
  have hz := hb.size
  have hz1 := blk_lt k2
  clear hb hb1 hb2 k1 k2 HO HO1 HC
  have hz4 := blk_lt k4
  cases r1
  · cases r2
    · have HU : Hid (u = []) := HX
      clear HX
      go_wp2
      go_ret
      exact ⟨_, rfl, by rw [HU.out]; exact HO2.mono (fun q hq => by have := hq.1; omega), hb3⟩
    · have HU : Hid (u = [x.b]) := HX
      clear HX
      obtain ⟨x1, f1⟩ := cell_of_block k3
      have x14 := x1 4
      simp at x14
      obtain ⟨x2, f2⟩ := cell_of_block k4
      have x21 := x2 1
      have x22 := x2 2
      simp at x21 x22
      go_wp2_with (at_builtin; refine app_int (by rfl) _ _ (by rfl) (.slice (some ⟨w.heap.size + 1, 0, none⟩) 0 0) [] x.b (w1.heap.size + 1) (by simp) (by rfl) (by rfl) HO2 (by simp) ?_; intro A c w4 HO3 hg; have hb4 := below_grown hb3 hg (fun q hq => by have := (own_in HO2 (.inr hq)).1; omega) hb3.size; have HO4 := HO3.mono (G := fun q => w.heap.size ≤ q) (fun q hq => by have := hb3.size; rcases hq with hq | hq; have := hq.1; omega; simp at hq; omega))
      go_ret
      exact ⟨_, rfl, by rw [HU.out]; exact HO4, hb4⟩
  · obtain ⟨x1, f1⟩ := cell_of_block k3
    have x13 := x1 3
    simp at x13
    obtain ⟨x2, f2⟩ := cell_of_block k4
    have x21 := x2 1
    have x22 := x2 2
    simp at x21 x22
    have tok1 : True := trivial
    cases r2
    · have HU : Hid (u = [x.a]) := HX
      clear HX
      go_wp2_with (at_builtin; have _t := tok1; refine app_int (by rfl) _ _ (by rfl) (.slice (some ⟨w.heap.size + 1, 0, none⟩) 0 0) [] x.a (w1.heap.size + 1) (by simp) (by rfl) (by rfl) HO2 (by simp) ?_; intro A c w4 HO3 hg; have hb4 := below_grown hb3 hg (fun q hq => by have := (own_in HO2 (.inr hq)).1; omega) hb3.size; have k5 := grown_blk hg k4 (own_ne HO2 (fun h => by have := h.1; have := h.2; omega)); obtain ⟨x5, f5⟩ := cell_of_block k5; have x52 := x5 2; simp at x52; clear tok1; have HO4 := HO3.mono (G := fun q => w.heap.size ≤ q) (fun q hq => by have := hb3.size; rcases hq with hq | hq; have := hq.1; omega; simp at hq; omega))
      go_ret
      exact ⟨_, rfl, by rw [HU.out]; exact HO4, hb4⟩
    · have HU : Hid (u = [x.a, x.b]) := HX
      clear HX
      go_wp2_with (first | (at_builtin; have _t := tok1; refine app_int (by rfl) _ _ (by rfl) (.slice (some ⟨w.heap.size + 1, 0, none⟩) 0 0) [] x.a (w1.heap.size + 1) (by simp) (by rfl) (by rfl) HO2 (by simp) ?_; intro A c w4 HO3 hg; have hb4 := below_grown hb3 hg (fun q hq => by have := (own_in HO2 (.inr hq)).1; omega) hb3.size; have k5 := grown_blk hg k4 (own_ne HO2 (fun h => by have := h.1; have := h.2; omega)); obtain ⟨x5, f5⟩ := cell_of_block k5; have x52 := x5 2; have k6 := grown_blk hg k3 (own_ne HO2 (fun h => by have := h.1; have := h.2; omega)); obtain ⟨x6, f6⟩ := cell_of_block k6; have x64 := x6 4; simp at x52 x64; clear tok1; have HO4 := HO3.mono (G := fun q => w.heap.size ≤ q) (fun q hq => by have := hb3.size; rcases hq with hq | hq; have := hq.1; omega; simp at hq; omega)) | (at_builtin; refine app_int (by rfl) _ _ (by rfl) (.slice A 1 c) [x.a] x.b w4.heap.size rfl (by rfl) (by rfl) HO4 (by simp) ?_; intro A' c' w5 HO5 hg5; have hb5 := below_grown hb4 hg5 (fun q hq => own_in HO4 (.inr hq)) hb4.size; have HO6 := HO5.mono (G := fun q => w.heap.size ≤ q) (fun q hq => by have := hb4.size; rcases hq with hq | hq; exact hq; omega)))
      go_ret
      exact ⟨_, rfl, by rw [HU.out]; exact HO6, hb5⟩
set_option maxHeartbeats 2000000 in
theorem nextsOf_calls {F : Nat → Prop} (s : Sa) (vparts : Value) (w : World) (hs : Rp.Rd part w F vparts s.parts) (hn : s.parts.length ≤ 1048576) :
    Calls Tryz.prog 59 #[saV s vparts] w fun e w' => ∃ v', e = .returned v' ∧ Rp.Rd (Rp.sl Rp.int) w' (fun q => F q ∧ q < w.heap.size ∨ w.heap.size ≤ q) v' (s.parts.map (fun p : Pt => p.next)) ∧ Below w.heap.size w w' := by
  replace hs := hs.bound
  obtain ⟨A, c, rfl, hlc, hcm, hrow⟩ := rd_part hs
  have hmk := mk_all Tryz.underlying64 infoInts s.parts.length (by omega) (by omega)
  unfold saV
  have hml : (s.parts.map (fun p : Pt => p.next)).length = s.parts.length := List.length_map _
  have HML := Lib.hid hml
  clear hml
  go_enter Tryz.func59, Tryz.ntmps59
  go_wp2
  obtain ⟨W1, hW1⟩ : ∃ W1, W1 = w.alloc (Obj.cells #[Value.slice A s.parts.length c, .int .i64 s.values] 28) := ⟨_, rfl⟩
  have hs1 : W1.heap.size = w.heap.size + 1 := by rw [hW1]; simp
  have hO := (ow_alloc1 (e := 59) (n := s.parts.length) (r := Rp.sl Rp.int) (z := .slice none 0 0) (x0 := []) W1 (by omega) rfl (fun w => ⟨_, rfl, Rp.Rd.nil _ _ _⟩)).loose
  have hB : Below w.heap.size w (W1.alloc (.cells (madeCells #[.slice none 0 0] s.parts.length) 59)) := by rw [hW1]; exact (below_new _).alloc (by simp) _
  rw [hs1] at hO
  rw [← hW1]
  clear hW1 hs1
  generalize W1.alloc (.cells (madeCells #[.slice none 0 0] s.parts.length) 59) = W2 at *
  go_loopw [13] (fun i wr => ∃ k : Nat, k ≤ s.parts.length ∧ i = .int .i64 k ∧ Ow false 59 (Rp.sl Rp.int) wr (fun q => F q ∧ q < w.heap.size ∨ w.heap.size + 1 ≤ q) (.slice (some ⟨w.heap.size + 1, 0, none⟩) s.parts.length s.parts.length) ((s.parts.map (fun p : Pt => p.next)).take k ++ List.replicate (s.parts.length - k) []) ∧ Below w.heap.size w wr) (fun i _ => s.parts.length - (intOf i).toNat)
  case atStart => exact ⟨0, Nat.zero_le _, rfl, by simpa using hO.mono (fun q hq => .inr hq), hB⟩
  case round =>
    clear hO hB
    obtain ⟨k, hk, rfl, HO, HB⟩ := hrel
    rename World => wo
    by_cases hlt : k < s.parts.length
    · rcases hrow with hnil | ⟨b, o, rfl, hb, hcell⟩
      · rw [hnil] at hlt; simp at hlt
      obtain ⟨_, _, _, _, hp, ⟨A1, c1, rfl, _⟩, ⟨A2, c2, rfl, _⟩, hxn, ⟨A4, c4, rfl, _⟩⟩ := hcell k hlt
      obtain ⟨q0, q1, q2, q3, q4, q5⟩ := partAt_below hp HB
      have hxn := hxn.below HB
      have HT : Hid ((((s.parts.map (fun p : Pt => p.next)).take k ++ List.replicate (s.parts.length - k) [])).set k s.parts[k].next = (s.parts.map (fun p : Pt => p.next)).take (k + 1) ++ List.replicate (s.parts.length - (k + 1)) []) := Lib.hid (by
        have hl1 : ((s.parts.map (fun p : Pt => p.next)).take k).length = k := by rw [List.length_take, HML.out]; omega
        rw [List.set_append_right _ _ (by omega), hl1, Nat.sub_self, List.take_succ_eq_append_getElem (by rw [HML.out]; exact hlt), List.getElem_map, List.append_assoc]
        congr 1
        obtain ⟨d, hd⟩ : ∃ d, s.parts.length - k = d + 1 := ⟨s.parts.length - (k + 1), by omega⟩
        rw [hd, show s.parts.length - (k + 1) = d by omega]
        rfl)
      have hkl : k < (((s.parts.map (fun p : Pt => p.next)).take k ++ List.replicate (s.parts.length - k) [])).length := by rw [List.length_append, List.length_take, HML.out, List.length_replicate]; omega
      clear hcell hp
      generalize s.parts[k] = p at *
      have ⟨A3, c3, hv3, _⟩ := hxn
      subst hv3
      have i0 : (0 : Int) ≤ (k : Int) := Int.natCast_nonneg _
      have i1 : (k : Int) < (s.parts.length : Int) := by omega
      have hbx := below_new (w := wo) (.cells #[.slice A1 p.params.length c1, .slice A2 p.code.length c2, .int .i64 p.go, .int .i64 p.test, .slice A3 p.next.length c3, .slice A4 p.args.length c4] 67)
      have HO1 := HO.below hbx
      obtain ⟨u, cu, fu, hu⟩ := HO1.sl_at hkl
      have HP := HO1.putS1 rfl hkl (y := p.next) (u := .slice A3 p.next.length c3) ⟨_, rfl, hxn.below hbx⟩ (fun q hq => by have := hq.2; omega)
      have HP := HP.mono (G := fun q => F q ∧ q < w.heap.size ∨ w.heap.size + 1 ≤ q) (fun q hq => hq.elim id .inl)
      rw [HT.out] at HP
      have HB1 : Below w.heap.size w ((wo.alloc (.cells #[.slice A1 p.params.length c1, .slice A2 p.code.length c2, .int .i64 p.go, .int .i64 p.test, .slice A3 p.next.length c3, .slice A4 p.args.length c4] 67)).setCell ⟨w.heap.size + 1, k, none⟩ (.slice A3 p.next.length c3)) := (HB.alloc HB.size _).setCell (by simp) _
      clear hkl HT hu hxn HO HO1
      replace HP := Lib.hid HP
      go_wp2
      go_roundw
      case rel => exact ⟨k + 1, by omega, by go_num, HP.out, HB1⟩
      case measure => simp [intOf]; omega
    · obtain rfl : k = s.parts.length := by omega
      have HF : Rp.Rd (Rp.sl Rp.int) wo (fun q => F q ∧ q < w.heap.size ∨ w.heap.size ≤ q) (.slice (some ⟨w.heap.size + 1, 0, none⟩) s.parts.length s.parts.length) (s.parts.map (fun p : Pt => p.next)) := by
        have := HO.rd.mono (G := fun q => F q ∧ q < w.heap.size ∨ w.heap.size ≤ q) (fun q hq => hq.imp id (fun h => by omega))
        rw [List.take_of_length_le (by rw [HML.out]; omega), Nat.sub_self, List.replicate_zero, List.append_nil] at this
        exact this
      clear HO hrow
      go_wp2
      go_ret
      exact ⟨_, rfl, HF, HB⟩
end Go.Proofs.YtnfaibenekninaaGreat.L

set_option linter.unusedVariables false
set_option linter.unusedSimpArgs false
namespace Go.Proofs.YtnfaibenekninaaGreat.L
open Go.RowKit
set_option maxHeartbeats 1000000 in
theorem indexInt_calls {F : Nat → Prop} (v : Value) (l : List Int) (n : Int) (w : World) (h : Rp.Rd Rp.int w F v l) :
    Calls Tryz.prog 146 #[v, .int .i64 n] w fun e w' => ∃ r : Int, e = .returned (.int .i64 r) ∧ decide (0 ≤ r) = l.contains n ∧ w' = w := by
  obtain ⟨A, c, rfl, hlc, hcm, hrow⟩ := rd_int h
  go_enter Tryz.func146, Tryz.ntmps146
  go_wp2
  go_loopw [8] (fun i wr => ∃ k : Nat, k ≤ l.length ∧ i = .int .i64 k ∧ Hid (∀ (j : Nat) (hj : j < l.length), j < k → l[j] ≠ n) ∧ wr = w) (fun i _ => l.length - (intOf i).toNat)
  case atStart => exact ⟨0, Nat.zero_le _, rfl, Lib.hid (fun j _ hj => by omega), rfl⟩
  case round =>
    obtain ⟨k, hk, rfl, HN, rfl⟩ := hrel
    by_cases hlt : k < l.length
    · rcases hrow with rfl | ⟨b, o, rfl, hb, hcell⟩
      · simp at hlt
      have c1 := hcell k hlt
      clear hcell
      have k0 : (0 : Int) ≤ (k : Int) := Int.natCast_nonneg _
      have k1 : (k : Int) < (l.length : Int) := by omega
      by_cases he : l[k] = n
      · have ht : (n == l[k]) = true := by simpa using he.symm
        have HE := Lib.hid he
        clear he
        go_wp2
        go_ret
        refine ⟨_, rfl, ?_, rfl⟩
        rw [decide_eq_true (Int.natCast_nonneg k)]
        symm; rw [List.contains_iff_mem]; exact HE.out ▸ List.getElem_mem hlt
      · have ht : (n == l[k]) = false := by simpa using (fun e => he (Eq.symm e))
        have HE := Lib.hid he
        clear he
        go_wp2
        go_roundw
        case rel => exact ⟨k + 1, by omega, by go_num, Lib.hid (fun j hj hjk => (Nat.lt_or_eq_of_le (Nat.le_of_lt_succ hjk)).elim (fun h => HN.out j hj h) (fun h => by subst h; exact HE.out)), by first | rfl | trivial⟩
        case measure => simp [intOf]; omega
    · obtain rfl : k = l.length := by omega
      go_wp2
      go_ret
      refine ⟨_, rfl, ?_, rfl⟩
      rw [show decide ((0 : Int) ≤ -1) = false by decide]
      symm
      rw [Bool.eq_false_iff]
      intro hc
      rw [List.contains_iff_mem] at hc
      obtain ⟨j, hj, hjn⟩ := List.getElem_of_mem hc
      exact HN.out j hj hj hjn
theorem containsInt_calls {F : Nat → Prop} (v : Value) (l : List Int) (n : Int) (w : World) (h : Rp.Rd Rp.int w F v l) :
    Calls Tryz.prog 108 #[v, .int .i64 n] w fun e w' => e = .returned (.bool (l.contains n)) ∧ w' = w := by
  have HC := Lib.hid (indexInt_calls v l n w h)
  obtain ⟨A, c, rfl, _⟩ := rd_int h
  generalize l.contains n = z at *
  go_enter Tryz.func108, Tryz.ntmps108
  go_wp2_with (go_at_call 146; refine HC.out.mono ?_; rintro e w1 ⟨r, rfl, hr, rfl⟩; have hr := Lib.hid hr)
  go_ret
  exact ⟨ret_bool (by first | exact hr.out | rfl), rfl⟩
end Go.Proofs.YtnfaibenekninaaGreat.L

set_option linter.unusedVariables false
set_option linter.unusedSimpArgs false
namespace Go.Proofs.YtnfaibenekninaaGreat.L
open Go.RowKit
theorem rd_bool {w : World} {F : Nat → Prop} {v : Value} {l : List Bool} (h : Rp.Rd Rp.bool w F v l) : ∃ A c, v = .slice A l.length c ∧ l.length ≤ c ∧ c ≤ 9223372036854775807 ∧
    (l = [] ∨ ∃ b o, A = some ⟨b, o, none⟩ ∧ b < w.heap.size ∧ ∀ (k : Nat) (hk : k < l.length), w.cell? ⟨b, o + k, none⟩ = some (.bool l[k])) := by
  obtain ⟨A, c, rfl, hl, hm, h⟩ := h
  refine ⟨A, c, rfl, hl, hm, ?_⟩
  rcases h with h | ⟨b, o, rfl, _, hb, h⟩
  · exact .inl h
  · refine .inr ⟨b, o, rfl, hb, fun k hk => ?_⟩
    obtain ⟨cs, hK, hc⟩ := h k l[k] (List.getElem?_eq_getElem hk)
    obtain rfl : cs = [.bool l[k]] := hK
    have := hc 0 _ rfl
    rw [show k * Rp.bool.sz + 0 = k from by show k * 1 + 0 = k; omega] at this
    exact this
set_option maxHeartbeats 1000000 in
theorem indexBool_calls {F : Nat → Prop} (v : Value) (l : List Bool) (n : Bool) (w : World) (h : Rp.Rd Rp.bool w F v l) :
    Calls Tryz.prog 112 #[v, .bool n] w fun e w' => ∃ r : Int, e = .returned (.int .i64 r) ∧ decide (0 ≤ r) = l.contains n ∧ w' = w := by
  obtain ⟨A, c, rfl, hlc, hcm, hrow⟩ := rd_bool h
  go_enter Tryz.func112, Tryz.ntmps112
  go_wp2
  go_loopw [8] (fun i wr => ∃ k : Nat, k ≤ l.length ∧ i = .int .i64 k ∧ Hid (∀ (j : Nat) (hj : j < l.length), j < k → l[j] ≠ n) ∧ wr = w) (fun i _ => l.length - (intOf i).toNat)
  case atStart => exact ⟨0, Nat.zero_le _, rfl, Lib.hid (fun j _ hj => by omega), rfl⟩
  case round =>
    obtain ⟨k, hk, rfl, HN, rfl⟩ := hrel
    by_cases hlt : k < l.length
    · rcases hrow with rfl | ⟨b, o, rfl, hb, hcell⟩
      · simp at hlt
      have c1 := hcell k hlt
      clear hcell
      have k0 : (0 : Int) ≤ (k : Int) := Int.natCast_nonneg _
      have k1 : (k : Int) < (l.length : Int) := by omega
      by_cases he : l[k] = n
      · have ht : (n == l[k]) = true := by simpa using he.symm
        have HE := Lib.hid he
        clear he
        go_wp2
        go_ret
        refine ⟨_, rfl, ?_, rfl⟩
        rw [decide_eq_true (Int.natCast_nonneg k)]
        symm; rw [List.contains_iff_mem]; exact HE.out ▸ List.getElem_mem hlt
      · have ht : (n == l[k]) = false := by simpa using (fun e => he (Eq.symm e))
        have HE := Lib.hid he
        clear he
        go_wp2
        go_roundw
        case rel => exact ⟨k + 1, by omega, by go_num, Lib.hid (fun j hj hjk => (Nat.lt_or_eq_of_le (Nat.le_of_lt_succ hjk)).elim (fun h => HN.out j hj h) (fun h => by subst h; exact HE.out)), by first | rfl | trivial⟩
        case measure => simp [intOf]; omega
    · obtain rfl : k = l.length := by omega
      go_wp2
      go_ret
      refine ⟨_, rfl, ?_, rfl⟩
      rw [show decide ((0 : Int) ≤ -1) = false by decide]
      symm
      rw [Bool.eq_false_iff]
      intro hc
      rw [List.contains_iff_mem] at hc
      obtain ⟨j, hj, hjn⟩ := List.getElem_of_mem hc
      exact HN.out j hj hj hjn
theorem containsBool_calls {F : Nat → Prop} (v : Value) (l : List Bool) (n : Bool) (w : World) (h : Rp.Rd Rp.bool w F v l) :
    Calls Tryz.prog 63 #[v, .bool n] w fun e w' => e = .returned (.bool (l.contains n)) ∧ w' = w := by
  have HC := Lib.hid (indexBool_calls v l n w h)
  obtain ⟨A, c, rfl, _⟩ := rd_bool h
  generalize l.contains n = z at *
  go_enter Tryz.func63, Tryz.ntmps63
  go_wp2_with (go_at_call 112; refine HC.out.mono ?_; rintro e w1 ⟨r, rfl, hr, rfl⟩; have hr := Lib.hid hr)
  go_ret
  exact ⟨ret_bool (by first | exact hr.out | rfl), rfl⟩
end Go.Proofs.YtnfaibenekninaaGreat.L

set_option linter.unusedVariables false
set_option linter.unusedSimpArgs false
namespace Go.Proofs.YtnfaibenekninaaGreat.L
open Go.RowKit
def endsS (p : Pt) : List Int := (if p.go == 2 || p.go == 5 then [p.test] else []) ++ p.args.flatten
theorem flatten_len {l : List (List Int)} (h : ∀ a ∈ l, a.length ≤ 1048576) : l.flatten.length ≤ l.length * 1048576 := by
  induction l with
  | nil => simp
  | cons x t ih =>
    have h1 := h x (by simp)
    have h2 := ih (fun a ha => h a (by simp [ha]))
    simp only [List.flatten_cons, List.length_append, List.length_cons, Nat.succ_mul]
    omega
theorem flatten_take {l : List (List Int)} {k : Nat} (hk : k < l.length) : (l.take (k + 1)).flatten = (l.take k).flatten ++ l[k] := by
  rw [List.take_succ_eq_append_getElem hk, List.flatten_append]; simp
set_option maxHeartbeats 2000000 in
theorem l9Ends_calls {F : Nat → Prop} (p : Pt) (vparams vcode vnext vargs : Value) (w : World) (hp : Rp.Rd Rp.int w F vparams p.params) (hc : Rp.Rd flat w F vcode p.code) (hn : Rp.Rd Rp.int w F vnext p.next) (h : Rp.Rd (Rp.sl Rp.int) w F vargs p.args) (hx : PtLim p) :
    Calls Tryz.prog 54 #[ptV p vparams vcode vnext vargs] w fun e w' => ∃ v', e = .returned v' ∧ Ow true 3 Rp.int w' (fun k => w.heap.size ≤ k) v' (endsS p) ∧ Below w.heap.size w w' := by
  obtain ⟨_, _, _, hl, hx⟩ := hx
  have HL := Lib.hid (flatten_len hx)
  obtain ⟨A1, c1, rfl, _, _⟩ := hp
  obtain ⟨A2, c2, rfl, _, _⟩ := hc
  obtain ⟨A3, c3, rfl, _, _⟩ := hn
  obtain ⟨A, c, rfl, hlc, hcm, hrow⟩ := rd_ints h
  obtain ⟨pre, HE, hpre, key⟩ : ∃ pre, Hid (endsS p = pre ++ p.args.flatten) ∧ pre.length ≤ 1 ∧ (Hid (pre = [p.test]) ∧ (p.go == 2) = true ∨ Hid (pre = [p.test]) ∧ (p.go == 2) = false ∧ (p.go == 5) = true ∨ Hid (pre = []) ∧ (p.go == 2) = false ∧ (p.go == 5) = false) := by
    refine ⟨if p.go == 2 || p.go == 5 then [p.test] else [], Lib.hid rfl, by split <;> simp, ?_⟩
    cases (p.go == 2) <;> cases (p.go == 5) <;> simp [Lib.hid]
  unfold ptV
  go_enter Tryz.func54, Tryz.ntmps54
  have tok1 : True := trivial
  rcases key with ⟨HQ, h1⟩ | ⟨HQ, h1, h2⟩ | ⟨HQ, h1, h2⟩
  all_goals
    go_wp2_with (at_builtin; have _t := tok1; refine acc_append1 (r := Rp.int) (e := 3) (B := (w.alloc (.cells #[.slice A1 p.params.length c1, .slice A2 p.code.length c2, .int .i64 p.go, .int .i64 p.test, .slice A3 p.next.length c3, .slice A p.args.length c] 67)).heap.size) (w0 := (w.alloc (.cells #[.slice A1 p.params.length c1, .slice A2 p.code.length c2, .int .i64 p.go, .int .i64 p.test, .slice A3 p.next.length c3, .slice A p.args.length c] 67))) int_flat (by rfl) _ _ 59 (.int .i64 0) 8 (by rfl) Tryz.underlying59 infoInt rfl (by decide) (by omega) (.slice none 0 0) [] p.test [.int .i64 p.test] (by rfl) (by rw [World.size_alloc] <;> rfl) true (Ow.nil _ _ _ _ _) rfl (Below.refl _ _) (Nat.le_refl _) (by simp) ?_; intro v1 w1 HO1 HB1 hB1; clear tok1; have b1 := (boxed1 HB1).1; have z1 := blk_lt b1; obtain ⟨x1, f1⟩ := cell_of_block b1)
  all_goals
    go_loopw [3, 22] (fun o i wr => ∃ k : Nat, k ≤ p.args.length ∧ i = .int .i64 k ∧ Ow true 3 Rp.int wr (fun k => (w.alloc (.cells #[.slice A1 p.params.length c1, .slice A2 p.code.length c2, .int .i64 p.go, .int .i64 p.test, .slice A3 p.next.length c3, .slice A p.args.length c] 67)).heap.size ≤ k) o (pre ++ (p.args.take k).flatten) ∧ Below (w.alloc (.cells #[.slice A1 p.params.length c1, .slice A2 p.code.length c2, .int .i64 p.go, .int .i64 p.test, .slice A3 p.next.length c3, .slice A p.args.length c] 67)).heap.size (w.alloc (.cells #[.slice A1 p.params.length c1, .slice A2 p.code.length c2, .int .i64 p.go, .int .i64 p.test, .slice A3 p.next.length c3, .slice A p.args.length c] 67)) wr ∧ (w.alloc (.cells #[.slice A1 p.params.length c1, .slice A2 p.code.length c2, .int .i64 p.go, .int .i64 p.test, .slice A3 p.next.length c3, .slice A p.args.length c] 67)).heap.size ≤ wr.heap.size) (fun _ i _ => p.args.length - (intOf i).toNat)
    case atStart => first | exact ⟨0, Nat.zero_le _, rfl, by rw [HQ.out]; simpa using HO1, HB1, hB1⟩ | exact ⟨0, Nat.zero_le _, rfl, by rw [HQ.out]; exact Ow.nil _ _ _ _ _, Below.refl _ _, Nat.le_refl _⟩
    case round =>
      obtain ⟨k, hk, rfl, HO, HB, hB⟩ := hrel
      by_cases hlt : k < p.args.length
      · rcases hrow with hnil | ⟨b, o, rfl, hb, hcell⟩
        · rw [hnil] at hlt; simp at hlt
        obtain ⟨u, c1, hu⟩ := hcell k hlt
        replace c1 := cell_below (below1 HB) c1
        replace hu := hu.below (below1 HB)
        clear hcell
        have hlen := flatten_len (l := p.args.take k) (fun a ha => hx a (List.mem_of_mem_take ha))
        rw [List.length_take, Nat.min_eq_left hk] at hlen
        have hy := hx p.args[k] (List.getElem_mem hlt)
        have HFT := Lib.hid (flatten_take hlt)
        obtain ⟨Av, kv, rfl, _, _⟩ := HO.form
        have ⟨A0, k0, hu0, _⟩ := hu
        subst hu0
        go_wp2_with (at_builtin; refine acc_appendf (r := Rp.int) (e := 3) int_flat (by rfl) _ _ 59 (.int .i64 0) 8 (by rfl) Tryz.underlying59 infoInt rfl (by decide) (by omega) (.slice Av (pre ++ (p.args.take k).flatten).length kv) (.slice A0 p.args[k].length k0) (pre ++ (p.args.take k).flatten) p.args[k] (by rfl) (by rfl) true HO hu HB hB (by simp only [List.length_append]; omega) ?_; intro v2 w2 HO2 HB2 hB2)
        go_roundw
        case rel => exact ⟨k + 1, by omega, by go_num, by rw [HFT.out, ← List.append_assoc]; exact HO2, HB2, hB2⟩
        case measure => simp [intOf]; omega
      · obtain rfl : k = p.args.length := by omega
        obtain ⟨Av, kv, rfl, _, _⟩ := HO.form
        clear hrow
        go_wp2
        go_ret
        exact ⟨.slice Av (pre ++ p.args.flatten).length kv, by rw [List.take_length]; rfl, by rw [HE.out]; rw [List.take_length] at HO; exact HO.mono (fun k hk => by simp at hk; omega), below1 HB⟩
end Go.Proofs.YtnfaibenekninaaGreat.L

set_option linter.unusedVariables false
namespace Go.Proofs.YtnfaibenekninaaGreat.L
open Go.RowKit
structure Bk where
  code : List Fl
  go : Int
  test : Int
  next : List Int
deriving DecidableEq
def Bk.t (x : Bk) : List Fl × Int × Int × List Int := (x.code, x.go, x.test, x.next)
def bkV (vc : Value) (x : Bk) (vn : Value) : Value := .agg #[vc, .int .i64 x.go, .int .i64 x.test, vn]
/-- A block that is read. -/
def block : Rp Bk := ((Rp.sl flat).pair (Rp.int.pair (Rp.int.pair (Rp.sl Rp.int)))).iso Bk.t
theorem block_open {w : World} {F : Nat → Prop} {x : Bk} {cs : List Value} (h : block.K w F x cs) : ∃ vc vn, cs = [vc, .int .i64 x.go, .int .i64 x.test, vn] ∧ Rp.Rd flat w F vc x.code ∧ Rp.Rd Rp.int w F vn x.next := by
  obtain ⟨_, _, rfl, ⟨vc, rfl, hc⟩, _, _, rfl, rfl, _, _, rfl, rfl, ⟨vn, rfl, hn⟩⟩ := h
  exact ⟨vc, vn, rfl, hc, hn⟩
theorem block_mk {w : World} {F : Nat → Prop} {x : Bk} {vc vn : Value} (hc : Rp.Rd flat w F vc x.code) (hn : Rp.Rd Rp.int w F vn x.next) : block.K w F x [vc, .int .i64 x.go, .int .i64 x.test, vn] :=
  ⟨[_], _, rfl, ⟨vc, rfl, hc⟩, [_], _, rfl, rfl, [_], _, rfl, rfl, ⟨vn, rfl, hn⟩⟩
/-- A block of one's own, whose two rows are apart. -/
def blockA : Rp Bk := ((Rp.ow true 71 flat).pairA (Rp.int.pair (Rp.int.pair (Rp.ow true 3 Rp.int)))).iso Bk.t
theorem blockA_open {w : World} {F : Nat → Prop} {x : Bk} {cs : List Value} (h : blockA.K w F x cs) : ∃ G1 G2 : Nat → Prop, (∀ k, G1 k → F k) ∧ (∀ k, G2 k → F k) ∧ (∀ k, G1 k → ¬ G2 k) ∧ ∃ vc vn, cs = [vc, .int .i64 x.go, .int .i64 x.test, vn] ∧ Ow true 71 flat w G1 vc x.code ∧ Ow true 3 Rp.int w G2 vn x.next := by
  obtain ⟨G1, G2, h1, h2, h3, _, _, rfl, ⟨vc, rfl, hc⟩, _, _, rfl, rfl, _, _, rfl, rfl, ⟨vn, rfl, hn⟩⟩ := h
  exact ⟨G1, G2, h1, h2, h3, vc, vn, rfl, hc, hn⟩
theorem blockA_mk {w : World} {F G1 G2 : Nat → Prop} {x : Bk} {vc vn : Value} (h1 : ∀ k, G1 k → F k) (h2 : ∀ k, G2 k → F k) (h3 : ∀ k, G1 k → ¬ G2 k) (hc : Ow true 71 flat w G1 vc x.code) (hn : Ow true 3 Rp.int w G2 vn x.next) : blockA.K w F x [vc, .int .i64 x.go, .int .i64 x.test, vn] :=
  ⟨G1, G2, h1, h2, h3, [_], _, rfl, ⟨vc, rfl, hc⟩, [_], _, rfl, rfl, [_], _, rfl, rfl, ⟨vn, rfl, hn⟩⟩
theorem blockA_le : Rp.Le blockA block := Rp.Le.iso (Rp.Le.pairA (Rp.Le.ow (Rp.Le.refl _)) (Rp.Le.pair (Rp.Le.refl _) (Rp.Le.pair (Rp.Le.refl _) (Rp.Le.ow (Rp.Le.refl _))))) _
/-- The cells of a struct of four. -/
def At4 (w : World) (b o : Nat) (v0 v1 v2 v3 : Value) : Prop :=
  w.cell? ⟨b, o, none⟩ = some v0 ∧ w.cell? ⟨b, o + 1, none⟩ = some v1 ∧ w.cell? ⟨b, o + 2, none⟩ = some v2 ∧ w.cell? ⟨b, o + 3, none⟩ = some v3
theorem At4.below {w w1 : World} {b o : Nat} {v0 v1 v2 v3 : Value} (h : At4 w b o v0 v1 v2 v3) (hb : Below w.heap.size w w1) : At4 w1 b o v0 v1 v2 v3 :=
  ⟨cell_below hb h.1, cell_below hb h.2.1, cell_below hb h.2.2.1, cell_below hb h.2.2.2⟩
theorem at4_of {w : World} {b o : Nat} {v0 v1 v2 v3 : Value} (h : ∀ j u, ([v0, v1, v2, v3] : List Value)[j]? = some u → w.cell? ⟨b, o + j, none⟩ = some u) : At4 w b o v0 v1 v2 v3 :=
  ⟨h 0 _ rfl, h 1 _ rfl, h 2 _ rfl, h 3 _ rfl⟩
theorem rd_block {w : World} {F : Nat → Prop} {v : Value} {l : List Bk} (h : Rp.Rd block w F v l) : ∃ A c, v = .slice A l.length c ∧ l.length ≤ c ∧ c ≤ 9223372036854775807 ∧
    (l = [] ∨ ∃ b o, A = some ⟨b, o, none⟩ ∧ b < w.heap.size ∧ ∀ (k : Nat) (hk : k < l.length), ∃ vc vn, At4 w b (o + k * 4) vc (.int .i64 l[k].go) (.int .i64 l[k].test) vn ∧ Rp.Rd flat w F vc l[k].code ∧ Rp.Rd Rp.int w F vn l[k].next) := by
  obtain ⟨A, c, rfl, hl, hm, h⟩ := h
  refine ⟨A, c, rfl, hl, hm, ?_⟩
  rcases h with h | ⟨b, o, rfl, _, hb, h⟩
  · exact .inl h
  · refine .inr ⟨b, o, rfl, hb, fun k hk => ?_⟩
    obtain ⟨cs, hK, hc⟩ := h k l[k] (List.getElem?_eq_getElem hk)
    obtain ⟨vc, vn, rfl, h1, h2⟩ := block_open hK
    refine ⟨vc, vn, at4_of fun j u hu => ?_, h1, h2⟩
    rw [Nat.add_assoc]
    exact hc j u hu
end Go.Proofs.YtnfaibenekninaaGreat.L

set_option linter.unusedVariables false
set_option linter.unusedSimpArgs false
namespace Go.Proofs.YtnfaibenekninaaGreat.L
open Go.RowKit
def sEnd (go test n c : Int) : Bool :=
  if go == 1 then n == 1 && test == 0 && decide (c ≤ 60) else if go == 2 then n == 2 && inB test 0 11 && decide (c ≤ 60)
  else if go == 5 then inB n 2 6 && inB test 0 11 && decide (c ≤ 60) else inB go 3 4 && n == 0 && test == 0 && decide (c ≤ 60)
def sBlk (x : Bk) (many : Int) : Bool := x.code.all sFlatB && x.next.all (fun k => decide (0 ≤ k) && decide (k < many)) && sEnd x.go x.test x.next.length x.code.length
theorem all_take_succ {α : Type} {p : α → Bool} {l : List α} {k : Nat} (hk : k < l.length) (h : (l.take k).all p = true) (hp : p l[k] = true) : (l.take (k + 1)).all p = true := by
  rw [List.take_succ_eq_append_getElem hk, List.all_append, h]; simp [hp]
theorem all_false {α : Type} {p : α → Bool} {l : List α} {k : Nat} (hk : k < l.length) (hp : p l[k] = false) : l.all p = false := by
  rw [List.all_eq_false]; exact ⟨_, List.getElem_mem hk, by simp [hp]⟩
set_option maxHeartbeats 4000000 in
theorem l6Block_calls {F : Nat → Prop} (x : Bk) (vc vn : Value) (many : Int) (w : World) (h1 : Rp.Rd flat w F vc x.code) (h2 : Rp.Rd Rp.int w F vn x.next) :
    Calls Tryz.prog 98 #[bkV vc x vn, .int .i64 many] w fun e w' => e = .returned (.bool (sBlk x many)) ∧ Below w.heap.size w w' := by
  have HX : Hid (sBlk x many = (x.code.all sFlatB && x.next.all (fun k => decide (0 ≤ k) && decide (k < many)) && sEnd x.go x.test x.next.length x.code.length)) := Lib.hid rfl
  obtain ⟨A, c, rfl, hlc, hcm, hra⟩ := rd_flat h1
  obtain ⟨B, d, rfl, hld, hdm, hrb⟩ := rd_int h2
  unfold bkV
  go_enter Tryz.func98, Tryz.ntmps98
  go_wp2
  go_loopw [13] (fun i wr => ∃ k : Nat, k ≤ x.code.length ∧ i = .int .i64 k ∧ Hid ((x.code.take k).all sFlatB = true) ∧ Below w.heap.size w wr ∧ wr.heap[w.heap.size]? = some (.cells #[.slice A x.code.length c, .int .i64 x.go, .int .i64 x.test, .slice B x.next.length d] 69 (0, 0))) (fun i _ => x.code.length - (intOf i).toNat)
  case atStart => exact ⟨0, Nat.zero_le _, rfl, Lib.hid rfl, below_new _, heap_alloc_new _ _⟩
  case round =>
    obtain ⟨k, hk, rfl, HT, HB, b1⟩ := hrel
    obtain ⟨c1, f1⟩ := cell_of_block b1
    have z1 := blk_lt b1
    by_cases hlt : k < x.code.length
    · rcases hra with hnil | ⟨g, o, rfl, hg, hca⟩
      · rw [hnil] at hlt; simp at hlt
      have q := (hca k hlt).below HB
      clear hca hrb
      obtain ⟨q0, q1, q2, q3, q4, q5⟩ := q
      have HC := fun W => l6Flat_calls x.code[k] W
      unfold flV at HC
      generalize hr : sFlatB x.code[k] = r at HC
      have HR := Lib.hid hr
      clear hr
      have HC := Lib.hid HC
      go_wp2_with fail
      refine (HC.out _).mono ?_
      rintro e w1 ⟨rfl, hb1⟩
      have b2 := blk_below (blk_alloc b1 _) hb1
      replace hb1 := below_then HB (below1 hb1)
      clear HC c1 f1
      cases r
      · go_wp2
        go_ret
        refine ⟨ret_bool ?_, hb1⟩
        rw [HX.out, all_false hlt HR.out]; rfl
      · go_wp2
        go_roundw
        case rel => exact ⟨k + 1, by omega, by go_num, Lib.hid (all_take_succ hlt HT.out HR.out), hb1, b2⟩
        case measure => simp [intOf]; omega
    · obtain rfl : k = x.code.length := by omega
      have HA : Hid (x.code.all sFlatB = true) := Lib.hid (by have := HT.out; rwa [List.take_length] at this)
      clear HT hra hlt hk
      go_wp2
      go_loopw [24] (fun i wr => ∃ k : Nat, k ≤ x.next.length ∧ i = .int .i64 k ∧ Hid ((x.next.take k).all (fun k => decide (0 ≤ k) && decide (k < many)) = true) ∧ Below w.heap.size w wr ∧ wr.heap[w.heap.size]? = some (.cells #[.slice A x.code.length c, .int .i64 x.go, .int .i64 x.test, .slice B x.next.length d] 69 (0, 0))) (fun i _ => x.next.length - (intOf i).toNat)
      case atStart => exact ⟨0, Nat.zero_le _, rfl, Lib.hid rfl, HB, b1⟩
      case round =>
        obtain ⟨k, hk, rfl, HT, HB, b1⟩ := hrel
        clear c1 f1 z1
        obtain ⟨c1, f1⟩ := cell_of_block b1
        have z1 := blk_lt b1
        by_cases hlt : k < x.next.length
        · rcases hrb with hnil | ⟨g, o, rfl, hg, hcb⟩
          · rw [hnil] at hlt; simp at hlt
          have q := cell_below HB (hcb k hlt)
          clear hcb
          by_cases hp : 0 ≤ x.next[k] ∧ x.next[k] < many
          · obtain ⟨p0, p1⟩ := hp
            have t0 : decide (x.next[k] < 0) = false := decide_eq_false (by omega)
            have t1 : decide (many ≤ x.next[k]) = false := decide_eq_false (by omega)
            go_wp2
            go_roundw
            case rel => exact ⟨k + 1, by omega, by go_num, Lib.hid (all_take_succ hlt HT.out (by simp [p0, p1])), HB, b1⟩
            case measure => simp [intOf]; omega
          · have HF : Hid (x.next.all (fun k => decide (0 ≤ k) && decide (k < many)) = false) := Lib.hid (all_false hlt (by simp; omega))
            by_cases hp0 : x.next[k] < 0
            · go_wp2
              go_ret
              refine ⟨ret_bool ?_, HB⟩
              rw [HX.out, HF.out]; simp
            · have hp1 : many ≤ x.next[k] := by omega
              clear hp
              go_wp2
              go_ret
              refine ⟨ret_bool ?_, HB⟩
              rw [HX.out, HF.out]; simp
        · obtain rfl : k = x.next.length := by omega
          have HA2 : Hid (x.next.all (fun k => decide (0 ≤ k) && decide (k < many)) = true) := Lib.hid (by have := HT.out; rwa [List.take_length] at this)
          clear HT hrb hlt hk
          go_wp2_with (first | (go_at_call 141; refine (l6Name_calls _ _).mono ?_; rintro e w' ⟨rfl, rfl⟩) | (go_at_call 47; refine (l1In_calls _ _ _ _).mono ?_; rintro e w' ⟨rfl, rfl⟩))
          all_goals
            go_ret
            refine ⟨ret_bool ?_, HB⟩
            rw [HX.out, HA.out, HA2.out]
            clear HX HA HA2 c1 f1
            unfold sEnd
            simp_all
end Go.Proofs.YtnfaibenekninaaGreat.L

set_option linter.unusedVariables false
set_option linter.unusedSimpArgs false
namespace Go.Proofs.YtnfaibenekninaaGreat.L
open Go.RowKit
def stepS (V : Int) (x : Fl) : Bool :=
  sFlatB { x with dst := 0, a := 0, b := 0 } && inB x.dst 0 (V - 1) && inB x.a 0 (V - 1) && inB x.b 0 (V - 1) && !(!inB x.op 1 4 && x.dst != 0) && !(x.op == 1 && x.a != 0) && !(x.op != 3 && x.op != 5 && x.b != 0)
def midS (V : Int) (p : Pt) (many : Int) : Bool :=
  !((p.go == 2 || p.go == 5) && !inB p.test 0 (V - 1) || p.go != 2 && p.go != 5 && p.test != 0) && sBlk ⟨[], p.go, 0, p.next⟩ many && decide ((p.code.length : Int) ≤ 60)
def fitS (parts : List Pt) : List Int → List (List Int) → Bool
  | [], [] => true
  | k :: ks, a :: rest => (match parts[k.toNat]? with | some q => a.length == q.params.length | none => false) && fitS parts ks rest
  | _, _ => false
def argsS (parts : List Pt) (p : Pt) : Bool :=
  if p.go == 3 then (match p.args with | [a] => a.length == 3 | _ => false) else fitS parts p.next p.args
def partS (s : Sa) (p : Pt) : Bool := p.code.all (stepS s.values) && midS s.values p s.parts.length && argsS s.parts p
theorem fitS_len (parts : List Pt) : ∀ (ks : List Int) (l : List (List Int)), fitS parts ks l = true → ks.length = l.length
  | [], [], _ => rfl
  | [], _ :: _, h => by simp [fitS] at h
  | _ :: _, [], h => by simp [fitS] at h
  | k :: ks, a :: l, h => by
    simp only [fitS, Bool.and_eq_true] at h
    simp only [List.length_cons]
    rw [fitS_len parts ks l h.2]
set_option maxRecDepth 100000 in
set_option maxHeartbeats 40000000 in
theorem l9Part_calls {F1 F2 : Nat → Prop} (s : Sa) (p : Pt) (vparts vparams vcode vnext vargs : Value) (w : World) (hs : Rp.Rd part w F1 vparts s.parts) (h1 : Rp.Rd Rp.int w F2 vparams p.params) (h2 : Rp.Rd flat w F2 vcode p.code) (h3 : Rp.Rd Rp.int w F2 vnext p.next) (h4 : Rp.Rd (Rp.sl Rp.int) w F2 vargs p.args)
    (hn : ∀ k ∈ p.next, 0 ≤ k ∧ k < s.parts.length) (hV : 12 ≤ s.values) (hV2 : s.values ≤ 250) :
    Calls Tryz.prog 48 #[saV s vparts, ptV p vparams vcode vnext vargs] w fun e w' => e = .returned (.bool (partS s p)) ∧ Below w.heap.size w w' := by
  have HX : Hid (partS s p = (p.code.all (stepS s.values) && midS s.values p s.parts.length && argsS s.parts p)) := Lib.hid rfl
  obtain ⟨A, c, rfl, hlc, hcm, hrow⟩ := rd_part hs
  obtain ⟨A1, c1, rfl, _, _⟩ := h1
  obtain ⟨A2, c2, rfl, _, _, hr2⟩ := rd_flat h2
  obtain ⟨A3, c3, rfl, _, _, hr3⟩ := rd_int h3
  obtain ⟨A4, c4, rfl, _, _, hr4⟩ := rd_ints h4
  unfold saV ptV
  go_enter Tryz.func48, Tryz.ntmps48
  dsimp only [List.append]
  go_wp2
  go_loopw [14] (fun i wr => ∃ k : Nat, k ≤ p.code.length ∧ i = .int .i64 k ∧ Hid ((p.code.take k).all (stepS s.values) = true) ∧ Below ((w.alloc (.cells #[.slice A s.parts.length c, .int .i64 s.values] 28)).alloc (.cells #[.slice A1 p.params.length c1, .slice A2 p.code.length c2, .int .i64 p.go, .int .i64 p.test, .slice A3 p.next.length c3, .slice A4 p.args.length c4] 67)).heap.size ((w.alloc (.cells #[.slice A s.parts.length c, .int .i64 s.values] 28)).alloc (.cells #[.slice A1 p.params.length c1, .slice A2 p.code.length c2, .int .i64 p.go, .int .i64 p.test, .slice A3 p.next.length c3, .slice A4 p.args.length c4] 67)) wr) (fun i _ => p.code.length - (intOf i).toNat)
  case atStart => exact ⟨0, Nat.zero_le _, rfl, Lib.hid rfl, Below.refl _ _⟩
  case round =>
    obtain ⟨k, hk, rfl, HT, HB⟩ := hrel
    obtain ⟨b1, b2, z1, z2⟩ := boxed2 HB
    obtain ⟨x1, f1⟩ := cell_of_block b1
    obtain ⟨x2, f2⟩ := cell_of_block b2
    by_cases hlt : k < p.code.length
    · rcases hr2 with hnil | ⟨g, o, rfl, hg, hca⟩
      · rw [hnil] at hlt; simp at hlt
      have q := (hca k hlt).below (below2 HB)
      clear hca hr3 hr4 hrow hn
      obtain ⟨q0, q1, q2, q3, q4, q5⟩ := q
      have HF : Hid (stepS s.values p.code[k] = false → partS s p = false) := Lib.hid (fun h => by rw [HX.out, l_all_false hlt h]; rfl)
      have HS : Hid (stepS s.values p.code[k] = true → (p.code.take (k + 1)).all (stepS s.values) = true) := Lib.hid (fun h => l_all_take_succ hlt HT.out h)
      generalize p.code[k] = x at *
      have HV : Hid (stepS s.values x = (sFlatB { x with dst := 0, a := 0, b := 0 } && inB x.dst 0 (s.values - 1) && inB x.a 0 (s.values - 1) && inB x.b 0 (s.values - 1) && !(!inB x.op 1 4 && x.dst != 0) && !(x.op == 1 && x.a != 0) && !(x.op != 3 && x.op != 5 && x.b != 0))) := Lib.hid rfl
      have HC := fun W => l6Flat_calls { x with dst := 0, a := 0, b := 0 } W
      have HC1 := fun W => l1In_calls x.dst 0 (s.values - 1) W
      have HC2 := fun W => l1In_calls x.a 0 (s.values - 1) W
      have HC3 := fun W => l1In_calls x.b 0 (s.values - 1) W
      have HC4 := fun W => l9Sets_calls x.op W
      generalize sFlatB { x with dst := 0, a := 0, b := 0 } = r at *
      generalize inB x.dst 0 (s.values - 1) = r1 at *
      generalize inB x.a 0 (s.values - 1) = r2 at *
      generalize inB x.b 0 (s.values - 1) = r3 at *
      generalize inB x.op 1 4 = r4 at *
      generalize stepS s.values x = r0 at *
      unfold flV at HC
      replace HC := Lib.hid HC
      replace HC1 := Lib.hid HC1
      replace HC2 := Lib.hid HC2
      replace HC3 := Lib.hid HC3
      replace HC4 := Lib.hid HC4
      generalize t5 : (x.dst != 0) = r5 at *
      generalize t6 : (x.op == 1) = r6 at *
      generalize t7 : (x.a != 0) = r7 at *
      generalize t8 : (x.op != 3) = r8 at *
      generalize t9 : (x.op != 5) = r9 at *
      generalize t10 : (x.b != 0) = r10 at *
      have tok0 : True := trivial
      have tok1 : True := trivial
      have tok2 : True := trivial
      have tok3 : True := trivial
      go_wp2_with (first | (go_at_call 97; refine (HC.out _).mono ?_; rintro e w1 ⟨rfl, hb⟩; have HB1 := below_then HB (below2 hb); obtain ⟨b3, _, z3, _⟩ := boxed2 hb; obtain ⟨x3, f3⟩ := cell_of_block b3; clear hb; obtain ⟨b4, b5, z4, z5⟩ := boxed2 HB1; obtain ⟨x4, f4⟩ := cell_of_block b4; obtain ⟨x5, f5⟩ := cell_of_block b5; skip) | (go_at_call 47; have _t := tok1; refine (HC1.out _).mono ?_; rintro e w' ⟨rfl, rfl⟩; clear tok1) | (go_at_call 47; have _t := tok2; refine (HC2.out _).mono ?_; rintro e w' ⟨rfl, rfl⟩; clear tok2) | (go_at_call 47; have _t := tok3; refine (HC3.out _).mono ?_; rintro e w' ⟨rfl, rfl⟩; clear tok3) | (go_at_call 37; refine (HC4.out _).mono ?_; rintro e w' ⟨rfl, rfl⟩))
      all_goals
        clear x1 f1 x2 f2 x3 f3 x4 x5 f4 f5 b1 b2 b3 b4 b5 z1 z2 z3 z4 z5 q0 q1 q2 q3 q4 q5 HC HC1 HC2 HC3 HC4 HT HX
        first
        | (go_ret
           exact ⟨ret_bool (HF.out (by have h := HV.out; clear HF HS HB HB1 HV; first | (simp_all; done) | (simp_all; omega))).symm, below2 HB1⟩)
        | (have HR : Hid (r0 = true) := Lib.hid (by have h := HV.out; clear HF HS HB HB1 HV; first | (simp_all; done) | (simp_all; omega))
           go_roundw
           case rel => exact ⟨k + 1, by omega, by go_num, Lib.hid (HS.out HR.out), HB1⟩
           case measure => simp [intOf]; omega)
    · obtain rfl : k = p.code.length := by omega
      have HX2 : Hid (partS s p = (midS s.values p s.parts.length && argsS s.parts p)) := Lib.hid (by have := HT.out; rw [List.take_length] at this; rw [HX.out, this]; rfl)
      have HM : Hid (midS s.values p s.parts.length = (!((p.go == 2 || p.go == 5) && !inB p.test 0 (s.values - 1) || p.go != 2 && p.go != 5 && p.test != 0) && sBlk ⟨[], p.go, 0, p.next⟩ s.parts.length && decide ((p.code.length : Int) ≤ 60))) := Lib.hid rfl
      have hBw := below2 HB
      have HC3 := fun W => l1In_calls p.test 0 (s.values - 1) W
      have HC7 := fun W (hW : Below w.heap.size w W) => l6Block_calls ⟨[], p.go, 0, p.next⟩ (.slice none 0 0) _ s.parts.length W (Rp.Rd.nil _ _ _) (h3.below hW)
      have hr8 : decide ((60 : Int) < p.code.length) = !decide ((p.code.length : Int) ≤ 60) := by
        by_cases h : (p.code.length : Int) ≤ 60
        · rw [decide_eq_true h, decide_eq_false (by omega)]; rfl
        · rw [decide_eq_false h, decide_eq_true (by omega)]; rfl
      unfold bkV at HC7
      generalize inB p.test 0 (s.values - 1) = r3 at *
      generalize sBlk ⟨[], p.go, 0, p.next⟩ s.parts.length = r7 at *
      generalize decide ((p.code.length : Int) ≤ 60) = r8 at *
      replace HC3 := Lib.hid HC3
      replace HC7 := Lib.hid HC7
      generalize midS s.values p s.parts.length = m at *
      clear HX HT hlt hr2
      have HE1 : Hid (m = false → partS s p = false) := Lib.hid (fun h => by rw [HX2.out, h]; rfl)
      have HE2 : Hid (argsS s.parts p = false → partS s p = false) := Lib.hid (fun h => by rw [HX2.out, h, Bool.and_false])
      have HE3 : Hid (m = true → partS s p = argsS s.parts p) := Lib.hid (fun h => by rw [HX2.out, h, Bool.true_and])
      clear HX2
      have hgo : (p.go == 2) = true ∧ (p.go != 2) = false ∧ (p.go == 3) = false ∨ (p.go == 2) = false ∧ (p.go != 2) = true ∧ (p.go == 3) = false ∧ (p.go == 5) = true ∧ (p.go != 5) = false ∨ (p.go == 2) = false ∧ (p.go != 2) = true ∧ (p.go == 3) = false ∧ (p.go == 5) = false ∧ (p.go != 5) = true ∨ (p.go == 2) = false ∧ (p.go != 2) = true ∧ (p.go == 5) = false ∧ (p.go != 5) = true ∧ (p.go == 3) = true := by
        simp; omega
      have hW1 := hBw.alloc hBw.size (.cells #[.slice none 0 0, .int .i64 p.go, .int .i64 0, .slice A3 p.next.length c3] 69)
      have hb1' := blk_alloc b1 (.cells #[.slice none 0 0, .int .i64 p.go, .int .i64 0, .slice A3 p.next.length c3] 69)
      have hb2' := blk_alloc b2 (.cells #[.slice none 0 0, .int .i64 p.go, .int .i64 0, .slice A3 p.next.length c3] 69)
      have HA : Hid ((p.go == 3) = false → argsS s.parts p = fitS s.parts p.next p.args) := Lib.hid (fun h => by unfold argsS; rw [h]; rfl)
      rcases hgo with ⟨g1, g2, g3⟩ | ⟨g1, g2, g3, g4, g5⟩ | ⟨g1, g2, g3, g4, g5⟩ | ⟨g1, g2, g4, g5, g3⟩
      case inr.inr.inr =>
        have HA3 : Hid (argsS s.parts p = (match p.args with | [a] => a.length == 3 | _ => false)) := Lib.hid (by unfold argsS; rw [g3]; rfl)
        simp only [g1, g2, g4, g5, Bool.true_or, Bool.false_or, Bool.true_and, Bool.false_and, Bool.or_false] at HM
        by_cases ha : p.args.length = 1
        · rcases hr4 with hnil | ⟨b4, o4, rfl, hb4, hc4⟩
          · rw [hnil] at ha; simp at ha
          have i1 : 0 < p.args.length := by omega
          obtain ⟨u, cu, hu⟩ := hc4 0 i1
          have HA4 : Hid (argsS s.parts p = (p.args[0].length == 3)) := Lib.hid (by
            obtain ⟨a0, ha0⟩ := List.length_eq_one_iff.1 ha
            rw [HA3.out]; simp [ha0])
          have ht : ((p.args.length : Int) == 1) = true := by rw [beq_iff_eq]; omega
          have HQ : Hid (((p.args[0].length : Int) == 3) = (p.args[0].length == 3)) := Lib.hid (by rw [Bool.eq_iff_iff]; simp; omega)
          have i0 : (0 : Int) < (p.args.length : Int) := by omega
          clear HA3 ha hc4 HA
          generalize p.args[0] = a0 at *
          obtain ⟨Au, ku, rfl, _⟩ := hu
          go_wp2_with (first | (go_at_call 47; refine (HC3.out _).mono ?_; rintro e w' ⟨rfl, rfl⟩) | (go_at_call 98; refine (HC7.out _ hW1).mono ?_; rintro e w2 ⟨rfl, hb⟩; have hB2 := below_then hW1 hb; have d1 := blk_below hb1' hb; have d2 := blk_below hb2' hb; obtain ⟨y1, e1⟩ := cell_of_block d1; obtain ⟨y2, e2⟩ := cell_of_block d2; have cu2 := cell_below hB2 cu; rw [Nat.add_zero] at cu2))
          all_goals
            go_ret
            refine ⟨ret_bool ?_, by first | exact hB2 | exact hW1⟩
            symm
            first
            | (apply HE1.out; have h := HM.out; clear HE1 HE2 HE3 HM HC3 HC7 HA4 HQ HB hB2; simp_all; done)
            | (apply HE1.out; have h := HM.out; clear HE1 HE2 HE3 HM HC3 HC7 HA4 HQ HB; simp_all; done)
            | (rw [HE3.out (by have h := HM.out; clear HE1 HE2 HE3 HM HC3 HC7 HA4 HQ HB hB2; simp_all), HA4.out, ← HQ.out])
        · have HA4 : Hid (argsS s.parts p = false) := Lib.hid (by
            rw [HA3.out]
            match p.args, ha with
            | [], _ => rfl
            | [a], h => exact absurd rfl h
            | _ :: _ :: _, _ => rfl)
          have ht : ((p.args.length : Int) == 1) = false := by rw [beq_eq_false_iff_ne]; omega
          have HN : Hid (partS s p = false) := Lib.hid (HE2.out HA4.out)
          clear HA3 ha HA
          go_wp2_with (first | (go_at_call 47; refine (HC3.out _).mono ?_; rintro e w' ⟨rfl, rfl⟩) | (go_at_call 98; refine (HC7.out _ hW1).mono ?_; rintro e w2 ⟨rfl, hb⟩; have hB2 := below_then hW1 hb; have d1 := blk_below hb1' hb; have d2 := blk_below hb2' hb; obtain ⟨y1, e1⟩ := cell_of_block d1; obtain ⟨y2, e2⟩ := cell_of_block d2))
          all_goals
            go_ret
            exact ⟨ret_bool HN.out.symm, by first | exact hB2 | exact hW1⟩
      all_goals
        replace HA := Lib.hid (HA.out g3)
        simp only [g1, g2, Bool.true_or, Bool.false_or, Bool.true_and, Bool.false_and, Bool.or_false] at HM
        try simp only [g4, g5, Bool.true_or, Bool.false_or, Bool.true_and, Bool.false_and, Bool.or_false] at HM
        by_cases hle : p.args.length = p.next.length
        · have hle2 : ((p.args.length : Int) != (p.next.length : Int)) = false := by rw [bne_eq_false_iff_eq]; omega
          have HLE := Lib.hid hle
          clear hle
          go_wp2_with (first | (go_at_call 47; refine (HC3.out _).mono ?_; rintro e w' ⟨rfl, rfl⟩) | (go_at_call 98; refine (HC7.out _ hW1).mono ?_; rintro e w2 ⟨rfl, hb⟩; have hB2 := below_then hW1 hb; have d1 := blk_below hb1' hb; have d2 := blk_below hb2' hb; obtain ⟨y1, e1⟩ := cell_of_block d1; obtain ⟨y2, e2⟩ := cell_of_block d2))
          all_goals first
          | (go_ret
             refine ⟨ret_bool (HE1.out ?_).symm, by first | exact hB2 | exact hW1⟩
             have h := HM.out
             clear HE1 HE2 HE3 HM HC3 HC7 HB HA HLE
             simp_all
             done)
          | (have HF : Hid (partS s p = fitS s.parts p.next p.args) := Lib.hid (by rw [← HA.out]; apply HE3.out; have h := HM.out; clear HE1 HE2 HE3 HM HC3 HC7 HB HA HLE hB2; simp_all)
             clear y1 y2 e1 e2 HE1 HE2 HE3 HM HC3 HC7 HB HA hb1' hb2' hW1
             go_loopw [165] (fun i wr => ∃ j : Nat, j ≤ p.next.length ∧ i = .int .i64 j ∧ Below w.heap.size w wr ∧ wr.heap[w.heap.size]? = some (.cells #[.slice A s.parts.length c, .int .i64 s.values] 28 (0, 0)) ∧ wr.heap[w.heap.size + 1]? = some (.cells #[.slice A1 p.params.length c1, .slice A2 p.code.length c2, .int .i64 p.go, .int .i64 p.test, .slice A3 p.next.length c3, .slice A4 p.args.length c4] 67 (0, 0)) ∧ Hid (fitS s.parts (p.next.drop j) (p.args.drop j) = fitS s.parts p.next p.args)) (fun i _ => p.next.length - (intOf i).toNat)
             case atStart => exact ⟨0, Nat.zero_le _, rfl, hB2, d1, d2, Lib.hid rfl⟩
             case round =>
               clear hB2 d1 d2
               obtain ⟨j, hj, rfl, HB, d1, d2, HJ⟩ := hrel
               obtain ⟨y1, e1⟩ := cell_of_block d1
               obtain ⟨y2, e2⟩ := cell_of_block d2
               by_cases hjt : j < p.next.length
               · have hja : j < p.args.length := by rw [HLE.out]; exact hjt
                 have hnk := hn p.next[j] (List.getElem_mem hjt)
                 obtain ⟨n, hnn⟩ := Int.eq_ofNat_of_zero_le hnk.1
                 have hnl : n < s.parts.length := by omega
                 rcases hr3 with hnil | ⟨b3, o3, rfl, hb3, hc3⟩
                 · rw [hnil] at hjt; simp at hjt
                 rcases hr4 with hnil | ⟨b4, o4, rfl, hb4, hc4⟩
                 · rw [hnil] at hja; simp at hja
                 rcases hrow with hnil | ⟨b5, o5, rfl, hb5, hc5⟩
                 · rw [hnil] at hnl; simp at hnl
                 have q3 := cell_below HB (hc3 j hjt)
                 obtain ⟨u, q4, hu⟩ := hc4 j hja
                 replace q4 := cell_below HB q4
                 obtain ⟨_, _, _, _, q5, ⟨A6, c6, rfl, _⟩, -, -, -⟩ := hc5 n hnl
                 have q5 := cell_below HB q5.1
                 have HJ2 : Hid (fitS s.parts (p.next.drop j) (p.args.drop j) = ((p.args[j].length == s.parts[n].params.length) && fitS s.parts (p.next.drop (j + 1)) (p.args.drop (j + 1)))) := Lib.hid (by
                   rw [List.drop_eq_getElem_cons hjt, List.drop_eq_getElem_cons hja, fitS, hnn, Int.toNat_natCast, List.getElem?_eq_getElem hnl])
                 rw [hnn] at q3
                 clear hc3 hc4 hc5 hnn hnk
                 generalize p.args[j] = a0 at *
                 generalize s.parts[n] = p5 at *
                 obtain ⟨Au, ku, rfl, _⟩ := hu
                 have i0 : (0 : Int) ≤ (j : Int) := Int.natCast_nonneg _
                 have i1 : (j : Int) < (p.next.length : Int) := by omega
                 have i2 : (j : Int) < (p.args.length : Int) := by omega
                 have i3 : (0 : Int) ≤ (n : Int) := Int.natCast_nonneg _
                 have i4 : (n : Int) < (s.parts.length : Int) := by omega
                 by_cases hq : a0.length = p5.params.length
                 · have hq2 : ((a0.length : Int) != (p5.params.length : Int)) = false := by rw [bne_eq_false_iff_eq]; omega
                   have HN : Hid (fitS s.parts (p.next.drop (j + 1)) (p.args.drop (j + 1)) = fitS s.parts p.next p.args) := Lib.hid (by rw [← HJ.out, HJ2.out, beq_iff_eq.2 hq, Bool.true_and])
                   clear hq HJ HJ2
                   go_wp2
                   go_quiet (fail)
                   go_wp2
                   go_roundw
                   case rel => exact ⟨j + 1, by omega, by go_num, below_drewN HB _, d1, d2, HN⟩
                   case measure => simp [intOf]; omega
                 · have hq2 : ((a0.length : Int) != (p5.params.length : Int)) = true := by rw [bne_iff_ne]; omega
                   have HN : Hid (partS s p = false) := Lib.hid (by rw [HF.out, ← HJ.out, HJ2.out, beq_eq_false_iff_ne.2 hq, Bool.false_and])
                   clear hq HJ HJ2
                   go_wp2
                   go_quiet (fail)
                   go_wp2
                   go_ret
                   exact ⟨ret_bool HN.out.symm, below_drewN HB _⟩
               · obtain rfl : j = p.next.length := by omega
                 have HN : Hid (partS s p = true) := Lib.hid (by rw [HF.out, ← HJ.out, List.drop_length, ← HLE.out, List.drop_length]; rfl)
                 go_wp2
                 go_ret
                 exact ⟨ret_bool HN.out.symm, HB⟩)
        · have hle2 : ((p.args.length : Int) != (p.next.length : Int)) = true := by rw [bne_iff_ne]; omega
          have HN : Hid (partS s p = false) := Lib.hid (HE2.out (by
            rw [HA.out]
            cases hf : fitS s.parts p.next p.args
            · rfl
            · exact absurd (fitS_len _ _ _ hf).symm hle))
          clear hle
          go_wp2_with (first | (go_at_call 47; refine (HC3.out _).mono ?_; rintro e w' ⟨rfl, rfl⟩) | (go_at_call 98; refine (HC7.out _ hW1).mono ?_; rintro e w2 ⟨rfl, hb⟩; have hB2 := below_then hW1 hb; have d1 := blk_below hb1' hb; have d2 := blk_below hb2' hb; obtain ⟨y1, e1⟩ := cell_of_block d1; obtain ⟨y2, e2⟩ := cell_of_block d2))
          all_goals
            go_ret
            exact ⟨ret_bool HN.out.symm, by first | exact hB2 | exact hW1⟩
end Go.Proofs.YtnfaibenekninaaGreat.L
