/- slices.Clone and slices.DeleteFunc over sections. -/
import Derived.Test.YteiekdolbnkihaaDoorIxS
import Derived.Test.YteiekdolbnkihaaDoorCvS
import Derived.Test.YteiekdolbnkihaaDoorLib6
import Derived.Lib.SliceRun
import Derived.Test.YteiekdolbnkihaaDoorLw1
set_option linter.unusedVariables false
set_option linter.unusedSimpArgs false
namespace Go.Proofs.YteiekdolbnkihaaDoor.L
open Go.RowKit
theorem seg_take (us : List Value) : ∀ (xs : List Value) (o : Nat), (seg xs o us).take o = xs.take o := by
  induction us with
  | nil => intro xs o; rfl
  | cons u us ih =>
    intro xs o
    have h := congrArg (List.take o) (ih (xs.set o u) (o + 1))
    rw [List.take_take, List.take_take, Nat.min_eq_left (Nat.le_succ o)] at h
    rw [seg, h, List.take_set_of_le (Nat.le_refl o)]
/-- What lies behind is written over; the row is cut. -/
theorem Ow.cut {α : Type} {ap : Bool} {e g n c : Nat} {r : Rp α} {w : World} {F : Nat → Prop} {l : List α} (hr : r.Flat) (h : Ow ap e r w F (.slice (some ⟨g, 0, none⟩) n c) l) {i : Nat} (hi : i ≤ l.length) (zs : List Value) :
    Ow ap e r (putRow w g (i * r.sz) zs) F (.slice (some ⟨g, 0, none⟩) i c) (l.take i) := by
  obtain ⟨φ, xs, h1, h2, h3, h4, h5⟩ := h
  obtain rfl : n = l.length := by
    rcases h1.2 with ⟨hh, _⟩ | ⟨g', cap', cur', hh, _⟩
    · cases hh
    · injection hh
  have hp := putRow_owns zs w xs (i * r.sz) h1
  have hle : i * r.sz ≤ l.length * r.sz := Nat.mul_le_mul hi (Nat.le_refl _)
  obtain ⟨hlen, hrow⟩ := hp.1
  rcases hrow with ⟨hh, _⟩ | ⟨g', cap', cur', hh, hb, hheap, hc, hm, hsz, htk⟩
  · cases hh
  injection hh with q1 q2 q3
  injection q1 with q1
  injection q1 with q1
  subst q1 q3
  refine ⟨φ, xs.take (i * r.sz), ⟨by rw [List.length_take, h1.1, List.length_take]; rw [Nat.min_eq_left hi, Nat.min_eq_left hle], .inr ⟨g, c, cur', by rw [List.length_take, Nat.min_eq_left hi], hb, hheap, by rw [List.length_take]; omega, hm, hsz, ?_⟩⟩, fun k hk => h2 k hk, h3, h4, fun j x hx => ?_⟩
  · rw [List.length_take, Nat.min_eq_left hi]
    have := congrArg (List.take (i * r.sz)) htk
    rw [List.take_take, Nat.min_eq_left hle, seg_take] at this
    exact this
  · rw [List.getElem?_take] at hx
    split at hx
    · rename_i hj
      have hK := h5 j x hx
      have he : ((xs.take (i * r.sz)).drop (j * r.sz)).take r.sz = (xs.drop (j * r.sz)).take r.sz := by
        rw [List.drop_take, List.take_take, Nat.min_eq_left]
        have : (j + 1) * r.sz ≤ i * r.sz := Nat.mul_le_mul hj (Nat.le_refl _)
        rw [Nat.add_mul, Nat.one_mul] at this
        omega
      rw [he]
      exact hr hK _ _
    · cases hx
theorem setCells_putRow (g : Nat) : ∀ (vs : List Value) (o : Nat) (w : World), w.setCells g o vs = putRow w g o vs
  | [], _, _ => rfl
  | v :: r, o, w => setCells_putRow g r (o + 1) (w.setCell ⟨g, o, none⟩ v)
theorem run_clear2 {P : Program} (w : World) (t e ty : TypeId) (z : Value) (ht : P.underlying t = some (.slice e)) (hv : ∀ w, (zeroValue e).run P w = .ok z w) (hz : z.cells.size = 2) (h1 : ∀ u ∈ z.cells, u.oneCell' = true) (b o n c : Nat) (hn : 0 < n)
    (hc : ∀ j, j < n * 2 → (w.cell? ⟨b, o + j, none⟩).isSome = true) (hf : ∀ j, j < n * 2 → w.frozen? ⟨b, o + j, none⟩ = false) :
    ∃ zs, (Builtin.clear_ #[t] ty #[.slice (some ⟨b, o, none⟩) n c]).run P w = .ok (.tuple #[]) (putRow w b o zs) := by
  refine ⟨(Builtin.zeroCells z.cells n).toList, ?_⟩
  have hlen : (Builtin.zeroCells z.cells n).toList.length = n * 2 := by simp [Builtin.zeroCells, hz]
  have hst := run_storeCells_cells (P := P) b o (Builtin.zeroCells z.cells n).toList 0 w (by rw [hlen]; simpa using hc) (by rw [hlen]; simpa using hf) (by
    intro v hv'
    simp only [Builtin.zeroCells, Array.toList_map, List.mem_map] at hv'
    obtain ⟨i, _, rfl⟩ := hv'
    have hi : i % z.cells.size < z.cells.size := Nat.mod_lt _ (by omega)
    rw [getElem!_pos z.cells _ hi]
    exact h1 _ (Array.getElem_mem hi))
  simp only [Nat.add_zero] at hst
  obtain ⟨m, rfl⟩ : ∃ m, n = m + 1 := ⟨n - 1, by omega⟩
  rw [← setCells_putRow]
  simp [Builtin.clear_, run_underlying ht, hv, hst]
set_option maxRecDepth 100000 in
set_option maxHeartbeats 4000000 in
theorem clone_calls {F : Nat → Prop} (v : Value) (l : List Se) (w : World) (h : Rp.Rd sect w F v l) (hl : l.length ≤ 1048576) :
    Calls Tryd.prog 58 #[v] w fun e w' => ∃ v', e = .returned v' ∧ Ow true 27 sect w' (fun k => w.heap.size ≤ k) v' l ∧ Below w.heap.size w w' := by
  obtain ⟨A, c, rfl, hlc, hcm, hrow⟩ := rd_sect h
  have q22 : ∀ (w : World) (a : Option Addr) (n c n' c' : Nat), (binOp .eql 33 (.slice a n c) (.slice none n' c')).run Tryd.prog w = .ok (.bool a.isNone) w := fun w a n c n' c' => Lib.run_eql_slice_nil w _ _ a n c n' c' Tryd.underlying33
  cases A with
  | none =>
    obtain rfl : l = [] := by rcases hrow with h | ⟨b, o, h, _⟩; exact h; cases h
    go_enter Tryd.func58, Tryd.ntmps58
    go_wp2
    go_ret
    exact ⟨_, rfl, Ow.nil _ _ _ _ _, Below.refl _ _⟩
  | some ad =>
    clear hrow
    have hH := h.below (below_new (w := w) (.cells #[] 27))
    have hB := (below_new (w := w) (.cells #[] 27)).size
    have HE : Ow true 27 sect (w.alloc (.cells #[] 27)) (fun k => w.heap.size ≤ k) (.slice (some ⟨w.heap.size, 0, none⟩) 0 0) [] :=
      ⟨fun _ _ => False, [], World.ownsRow_lit w #[] 0 (Nat.zero_le _) (by unfold maxLen; omega) (by simp), fun k hk => by simp [Value.ownBlock] at hk; omega, fun _ _ h => h.elim, fun _ _ _ _ h => h.elim, fun i x hx => by simp at hx⟩
    go_enter Tryd.func58, Tryd.ntmps58
    go_wp2_with (at_builtin; have _t := HE; refine acc_appendf (r := sect) (e := 27) (B := w.heap.size) (w0 := w) sect_flat (by rfl) _ _ 33 (.agg #[.int .i64 0, .string ByteArray.empty]) 24 (by rfl) Tryd.underlying33 infoSect rfl (by decide) (by omega) (.slice (some ⟨w.heap.size, 0, none⟩) 0 0) (.slice (some ad) l.length c) [] l (by rfl) (by rfl) true HE hH (below_new _) hB (by simp; omega) ?_; intro v1 w1 HO1 HB1 hB1; clear HE)
    go_ret
    exact ⟨_, rfl, HO1, HB1⟩
theorem zeroSect (w : World) : (zeroValue 27).run Tryd.prog w = .ok (.agg #[.int .i64 0, .string ByteArray.empty]) w := by
  obtain ⟨i, hi, hzz⟩ := Option.map_eq_some_iff.1 infoSect
  simp only [Prod.mk.injEq] at hzz
  simp [zeroValue, typeInfo, hi, hzz.1]
set_option maxRecDepth 100000 in
set_option maxHeartbeats 8000000 in
theorem delSect_calls (g c : Nat) (l : List Se) (fn : Nat) (caps : Array Value) (p : Se → Bool) (w w0 : World) (B : Nat) (HO : Ow true 27 sect w (fun k => B ≤ k) (.slice (some ⟨g, 0, none⟩) l.length c) l) (hB : B ≤ g) (HB : Below B w0 w) (hBw : B ≤ w.heap.size) (hl : l.length ≤ 1048576) (hen : Enters Tryd.prog fn)
    (hf : ∀ x ∈ l, ∀ W, Below B w0 W → Calls Tryd.prog fn (#[seV x] ++ caps) W fun e w' => e = .returned (.bool (p x)) ∧ Below W.heap.size W w') :
    Calls Tryd.prog 57 #[.slice (some ⟨g, 0, none⟩) l.length c, .func (.func fn) #[] caps] w fun e w' => ∃ v', e = .returned v' ∧ Ow true 27 sect w' (fun k => B ≤ k) v' (l.filter (fun x => !p x)) ∧ Below B w0 w' := by
  have HX := ixSect_calls (.slice (some ⟨g, 0, none⟩) l.length c) l fn caps p w HO.rd hen (fun x hx W hW => hf x hx W (HB.trans (hW.mono hBw)))
  have hform := HO.form
  obtain ⟨A', c', he, hlc, hcm⟩ := hform
  injection he with he1 he2 he3
  subst he1 he3
  have hcm : c ≤ 9223372036854775807 := by unfold maxLen at hcm; omega
  have hix : (ixOf p l = -1 ∧ l.filter (fun x => !p x) = l) ∨ ∃ (k : Nat) (hk : k < l.length), ixOf p l = k ∧ p l[k] = true ∧ (l.take k).filter (fun x => !p x) = l.take k := by
    unfold ixOf
    cases h : l.findIdx? p with
    | none =>
      left
      rw [List.findIdx?_eq_none_iff] at h
      exact ⟨rfl, by rw [List.filter_eq_self]; intro x hx; simp [h x hx]⟩
    | some i =>
      right
      rw [List.findIdx?_eq_some_iff_getElem] at h
      obtain ⟨h1, h2, h3⟩ := h
      refine ⟨i, h1, rfl, h2, ?_⟩
      rw [List.filter_eq_self]
      intro x hx
      obtain ⟨j, hj, rfl⟩ := List.getElem_of_mem hx
      simp at hj
      simp only [List.getElem_take]
      simpa using h3 j (by omega)
  have HF := Lib.hid (fun (x : Se) (hx : x ∈ l) W (hW : Below B w0 W) => hf x hx W hW)
  clear hf
  unfold Enters at hen
  rcases hix with ⟨e1, e2⟩ | ⟨k0, hk0, e1, hpk, e2⟩
  · rw [e1] at HX
    have HX := Lib.hid HX
    have E2 := Lib.hid e2
    clear e1 e2
    go_enter Tryd.func57, Tryd.ntmps57
    go_wp2_with (go_at_call 67; refine HX.out.mono ?_; rintro e w1 ⟨rfl, hb1⟩)
    go_ret
    exact ⟨_, rfl, by rw [E2.out]; exact HO.below hb1, HB.trans (hb1.mono hBw)⟩
  · rw [e1] at HX
    have HX := Lib.hid HX
    have E2 := Lib.hid e2
    have EP := Lib.hid hpk
    have n1 : ((k0 : Int) == -1) = false := by rw [beq_eq_false_iff_ne]; omega
    clear e1 e2 hpk
    go_enter Tryd.func57, Tryd.ntmps57
    go_wp2_with (go_at_call 67; refine HX.out.mono ?_; rintro e w1 ⟨rfl, hb1⟩)
    have HO1 := HO.below hb1
    have HB1 := HB.trans (hb1.mono hBw)
    clear HO HB hb1 HX
    go_loopw [5, 6] (fun a b wr => ∃ (i j : Nat) (m : List Se), a = .int .i64 i ∧ b = .int .i64 j ∧ i < j ∧ j ≤ l.length ∧ m.length = l.length ∧ Ow true 27 sect wr (fun k => B ≤ k) (.slice (some ⟨g, 0, none⟩) l.length c) m ∧ Hid (m.take i = (l.take j).filter (fun x => !p x) ∧ m.drop j = l.drop j) ∧ Below B w0 wr ∧ B ≤ wr.heap.size) (fun _ b _ => l.length - (intOf b).toNat)
    case atStart =>
      exact ⟨k0, k0 + 1, l, rfl, by go_num, by omega, by omega, rfl, HO1, Lib.hid ⟨by rw [List.take_succ_eq_append_getElem hk0, List.filter_append, E2.out]; simp [EP.out], rfl⟩, HB1, by have := HO1.lt_size (k := g) rfl; omega⟩
    case round =>
      obtain ⟨i, j, m, rfl, rfl, hij, hjl, hml, HOr, HM, HBr, hBr⟩ := hrel
      have i0 : (0 : Int) ≤ (i : Int) := Int.natCast_nonneg _
      have j0 : (0 : Int) ≤ (j : Int) := Int.natCast_nonneg _
      by_cases hlt : j < l.length
      · have hmj : m[j]'(by omega) = l[j] := by
          have h1 : m[j]? = l[j]? := by
            have h2 := congrArg (fun t => t[0]?) HM.out.2
            simpa [List.getElem?_drop] using h2
          rw [List.getElem?_eq_getElem (by omega), List.getElem?_eq_getElem hlt] at h1
          exact Option.some.inj h1
        have HMJ := Lib.hid hmj
        obtain ⟨⟨c0, c1⟩, f0⟩ := HOr.sect_at (k := j) (by omega)
        rw [hmj] at c0 c1
        clear hmj
        have hxl : l[j] ∈ l := List.getElem_mem hlt
        obtain ⟨x, hx⟩ : ∃ x, l[j] = x := ⟨_, rfl⟩
        rw [hx] at c0 c1 hxl HMJ
        have HXE := Lib.hid hx
        clear hx
        have j1 : (j : Int) < (l.length : Int) := by omega
        have i1 : (i : Int) < (l.length : Int) := by omega
        have HBb := HBr.alloc hBr (.cells #[.int .i64 x.id, .string x.body] 27)
        have HC := HF.out x hxl (wr.alloc (.cells #[.int .i64 x.id, .string x.body] 27)) HBb
        have HTK : Hid ((l.take (j + 1)).filter (fun x => !p x) = (l.take j).filter (fun x => !p x) ++ if p x then [] else [x]) := Lib.hid (by
          rw [List.take_succ_eq_append_getElem hlt, List.filter_append, HXE.out]
          congr 1
          cases hp : p x <;> simp [hp])
        unfold seV at HC
        obtain ⟨z, hz⟩ : ∃ z, p x = z := ⟨_, rfl⟩
        rw [hz] at HC HTK
        clear hz
        have HC := Lib.hid HC
        clear f0
        go_wp2_with fail
        refine HC.out.mono ?_
        rintro e w1 ⟨rfl, hb1⟩
        obtain ⟨b0, b1⟩ := box2_cells hb1
        have HO2 := HOr.below (below1 hb1)
        have HB2 := HBb.trans (hb1.mono (by simp; omega))
        have hB2 : B ≤ w1.heap.size := Nat.le_trans hBr (below1 hb1).size
        clear HOr HBr hBr HC c0 c1 HBb
        cases z
        · obtain ⟨⟨c0, c1⟩, f0⟩ := HO2.sect_at (k := i) (by omega)
          have HO3 := (HO2.put (G := fun _ => False) rfl (i := i) (by omega) (sect_mk w1 _ x) (fun _ h => h.elim)).mono (fun k hk => hk.elim id (fun h => h.elim))
          go_wp2
          go_roundw
          case rel =>
            refine ⟨i + 1, j + 1, m.set i x, by go_num, by go_num, by omega, by omega, by simpa using hml, HO3, Lib.hid ⟨?_, ?_⟩, putRow_below (g := g) HB2 hB [.int .i64 x.id, .string x.body] (i * 2), by simpa using hB2⟩
            · rw [HTK.out, ← HM.out.1, List.take_succ_eq_append_getElem (by simp; omega), List.take_set_of_le (Nat.le_refl i)]
              simp
            · rw [List.drop_set_of_lt (by omega)]
              have h2 := congrArg (List.drop 1) HM.out.2
              simpa [List.drop_drop] using h2
          case measure => simp [intOf]; omega
        · go_wp2
          go_roundw
          case rel =>
            refine ⟨i, j + 1, m, rfl, by go_num, by omega, by omega, hml, HO2, Lib.hid ⟨?_, ?_⟩, HB2, hB2⟩
            · rw [HTK.out, ← HM.out.1]; simp
            · have h2 := congrArg (List.drop 1) HM.out.2
              simpa [List.drop_drop] using h2
          case measure => simp [intOf]; omega
      · obtain rfl : j = l.length := by omega
        have hil : i < m.length := by omega
        have hall : ∀ q, q < (l.length - i) * 2 → ∃ u, wr.cell? ⟨g, i * 2 + q, none⟩ = some u ∧ wr.frozen? ⟨g, i * 2 + q, none⟩ = false := by
          intro q hq
          obtain ⟨⟨d0, d1⟩, f0⟩ := HOr.sect_at (k := i + q / 2) (by omega)
          rcases Nat.mod_two_eq_zero_or_one q with h | h
          · exact ⟨_, by rw [show i * 2 + q = (i + q / 2) * 2 by omega]; exact d0, f0 _⟩
          · exact ⟨_, by rw [show i * 2 + q = (i + q / 2) * 2 + 1 by omega]; exact d1, f0 _⟩
        obtain ⟨zs, hcl⟩ := run_clear2 (P := Tryd.prog) wr 33 27 0 (.agg #[.int .i64 0, .string ByteArray.empty]) Tryd.underlying33 zeroSect rfl (by intro u hu; simp [Value.cells] at hu; rcases hu with rfl | rfl <;> rfl) g (i * 2) (l.length - i) (c - i) (by omega) (fun q hq => by obtain ⟨u, h, _⟩ := hall q hq; rw [h]; rfl) (fun q hq => (hall q hq).choose_spec.2)
        have HOc := HOr.cut sect_flat (i := i) (by omega) zs
        have HBc := putRow_below (g := g) HBr hB zs (i * 2)
        have hsl : Hid (m.take i = l.filter (fun x => !p x)) := Lib.hid (by rw [HM.out.1, List.take_length])
        clear hall
        go_wp2
        go_ret
        exact ⟨_, rfl, by rw [← hsl.out]; exact HOc, HBc⟩
end Go.Proofs.YteiekdolbnkihaaDoor.L
