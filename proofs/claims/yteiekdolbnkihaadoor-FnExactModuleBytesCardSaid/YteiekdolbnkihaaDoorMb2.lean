/- The reference's ModuleBytes. -/
import Derived.Test.YteiekdolbnkihaaDoorMb1
import Derived.Test.YteiekdolbnkihaaDoorGs3
set_option linter.unusedVariables false
set_option linter.unusedSimpArgs false
namespace Go.Proofs.YteiekdolbnkihaaDoor.L
open Go.RowKit
set_option maxRecDepth 100000 in
set_option maxHeartbeats 8000000 in
theorem moduleBytesS_calls {F : Nat → Prop} (v : Value) (l : List Se) (w : World) (h : Rp.Rd sect w F v l) (hl : l.length ≤ 1048576) (hs : ∀ x ∈ l, x.body.size ≤ 1048576) :
    Calls Tryd.prog 23 #[v] w fun e w' => e = .returned (nameV (bytesOf l)) ∧ Below w.heap.size w w' := by
  have HU : Hid (bytesOf l = if goodB l then some ⟨(modHead ++ modL l).toArray⟩ else none) := Lib.hid rfl
  have HG := goodSectionsS_calls v l w h hl hs
  rw [← good_same] at HG
  have hall := @goodB_all l
  generalize goodB l = z at *
  have HG := Lib.hid HG
  obtain ⟨A, c, rfl, hlc, hcm, hrow⟩ := rd_sect h
  cases z
  · go_enter Tryd.func23, Tryd.ntmps23
    go_wp2_with (go_at_call 17; refine HG.out.mono ?_; rintro e w1 ⟨rfl, hb⟩)
    exact bodyPost_ret (v := nameV none) (by simp [results, Tryd.results23, go_sem, nameV]) rfl ⟨by rw [HU.out]; rfl, hb⟩
  · obtain ⟨hl8, hx⟩ := hall rfl
    clear hall
    go_enter Tryd.func23, Tryd.ntmps23
    go_wp2_with (go_at_call 17; refine HG.out.mono ?_; rintro e w1 ⟨rfl, hb⟩)
    go_loopw [4, 12] (fun o1 i wr => ∃ (k : Nat) (s : ByteArray), k ≤ l.length ∧ i = .int .i64 k ∧ o1 = .string s ∧ Hid (s.data.toList = modHead ++ modL (l.take k)) ∧ Below w.heap.size w wr) (fun _ i _ => l.length - (intOf i).toNat)
    case atStart => exact ⟨0, _, Nat.zero_le _, rfl, rfl, Lib.hid (by simp [modL, modHead]), hb⟩
    case round =>
      obtain ⟨k, s, hk, rfl, rfl, HD, HBw⟩ := hrel
      by_cases hlt : k < l.length
      · rcases hrow with rfl | ⟨b, o, rfl, hb0, hcell⟩
        · simp at hlt
        have c1 := (hcell k hlt).below HBw
        clear hcell
        obtain ⟨q0, q1⟩ := c1
        have hmlen := modL_len (l.take k) (fun x hx' => (hx x (List.mem_of_mem_take hx')).2)
        have htl : (l.take k).length ≤ 8 := by simp; omega
        have hss : s.size ≤ 50000 := by
          have : s.data.toList.length = s.size := Array.length_toList
          rw [← this, HD.out]; simp [modHead]; omega
        have hxk := hx l[k] (List.getElem_mem hlt)
        have HS : Hid (modHead ++ modL (l.take (k + 1)) = modHead ++ modL (l.take k) ++ (UInt8.ofNat l[k].id.toNat :: lebB l[k].body.size ++ l[k].body.data.toList)) := Lib.hid (by rw [List.take_succ_eq_append_getElem hlt, modL_snoc, List.append_assoc])
        obtain ⟨x, hxe⟩ : ∃ x, l[k] = x := ⟨_, rfl⟩
        rw [hxe] at q0 q1 HS hxk
        clear hxe hmlen htl
        obtain ⟨xid, body⟩ := x
        obtain ⟨h11, h200⟩ := hxk
        simp only at h11 h200 q0 q1 HS
        obtain ⟨n, rfl⟩ : ∃ n : Nat, xid = n := ⟨xid.toNat, by unfold inB at h11; simp at h11; omega⟩
        have hn11 : n ≤ 11 := by unfold inB at h11; simp at h11; omega
        rw [Int.toNat_natCast] at HS
        clear h11
        have HL := Lib.hid (fun W => l1PutU_calls W body.size h200)
        have hwrap : IntKind.u8.wrap (n : Int) = (n : Int) := by rw [IntKind.wrap_u8]; omega
        have hcv : ∀ (W : World) (g : Nat), W.cell? ⟨g, 0, none⟩ = some (.int .u8 (n : Int)) → (convert 46 9 (.slice (some ⟨g, 0, none⟩) 1 1)).run Tryd.prog W = .ok (.string (b1 n)) W := fun W g hc => conv1 W g n n rfl (by omega) hc
        have hb1s : (b1 n).size ≤ 1 := Nat.le_refl _
        have hL2 := (lebB_len body.size).2
        obtain ⟨Lb, hLb⟩ : ∃ Lb : ByteArray, ByteArray.mk (lebB body.size).toArray = Lb := ⟨_, rfl⟩
        have hLs : Lb.size ≤ 2 := by rw [← hLb]; exact hL2
        obtain ⟨B1, hB1⟩ : ∃ B1 : ByteArray, b1 n = B1 := ⟨_, rfl⟩
        have HNEW : Hid ((s ++ (B1 ++ Lb ++ body)).data.toList = modHead ++ modL (l.take (k + 1))) := Lib.hid (by
          rw [HS.out, append_data, append_data, append_data, HD.out, ← hB1, b1_data, ← hLb]
          simp)
        rw [hB1] at hcv hb1s
        rw [hLb] at HL
        clear hLb hB1 HS HD hL2
        have z1 : B1.size + Lb.size ≤ 9223372036854775807 := by omega
        have z2 : B1.size + Lb.size + body.size ≤ 9223372036854775807 := by omega
        have z3 : s.size + (B1.size + Lb.size + body.size) ≤ 9223372036854775807 := by omega
        have hN : ((wr.alloc (.cells #[.int .i64 (n : Int), .string body] 27)).alloc (.cells #[.int .u8 (n : Int)] 5)).drew.cell? ⟨wr.heap.size + 1, 0, none⟩ = some (.int .u8 (n : Int)) := cell_newd (by simp) rfl
        have XB2 : Below w.heap.size w (wr.alloc (.cells #[.int .i64 (n : Int), .string body] 27)).drew := below_drew (HBw.alloc HBw.size _)
        have XB1 : Below w.heap.size w ((wr.alloc (.cells #[.int .i64 (n : Int), .string body] 27)).alloc (.cells #[.int .u8 (n : Int)] 5)).drew := below_drew ((HBw.alloc HBw.size _).alloc (by have := HBw.size; simp; omega) _)
        have y1 : (9223372036854775807 < B1.size + Lb.size) = False := by simp; omega
        have y2 : (9223372036854775807 < B1.size + Lb.size + body.size) = False := by simp; omega
        have y3 : (9223372036854775807 < s.size + (B1.size + Lb.size + body.size)) = False := by simp; omega
        have hX := hcv _ _ hN
        have hZ : ∀ W : World, (convert 46 9 (.slice (some ⟨W.heap.size, 0, none⟩) 1 1)).run Tryd.prog (W.alloc (.cells #[.int .u8 (n : Int)] 5)) = .ok (.string B1) (W.alloc (.cells #[.int .u8 (n : Int)] 5)) := fun W => hcv _ _ (cell_new' rfl rfl)
        go_wp2_with fail
        go_region_held (fun w' => w'.cell? ⟨wr.heap.size, 0, none⟩ = some (.int .i64 (n : Int)) ∧ w'.cell? ⟨wr.heap.size, 1, none⟩ = some (.string body))
          (first | go_keep | (go_split_ands; refine ⟨?_, ?_⟩ <;> exact cell_below hb2 (by first | assumption | simp)))
          ((go_at_call 50; refine (HL.out _).mono ?_; rintro e w2 ⟨rfl, hb2⟩; try (have hfc := cell_below hb2 hN; have hY := hcv _ _ hfc)))
        all_goals
          go_wp2
          go_roundw
          case rel => exact ⟨k + 1, s ++ (B1 ++ Lb ++ body), by omega, by go_num, rfl, HNEW, by first | exact XB1.trans (hb2.mono XB1.size) | exact (XB2.trans (hb2.mono XB2.size)).alloc (XB2.trans (hb2.mono XB2.size)).size _ | exact XB2.trans (hb2.mono XB2.size)⟩
          case measure => simp [intOf]; omega
      · obtain rfl : k = l.length := by omega
        have HN : Hid (nameV (some s) = nameV (bytesOf l)) := Lib.hid (by rw [HU.out, if_pos trivial]; have h := of_data HD.out; rw [List.take_length] at h; rw [← h])
        go_wp2
        exact bodyPost_ret (v := nameV (some s)) (by simp [results, Tryd.results23, go_sem, nameV]) rfl ⟨by rw [HN.out], HBw⟩
end Go.Proofs.YteiekdolbnkihaaDoor.L
