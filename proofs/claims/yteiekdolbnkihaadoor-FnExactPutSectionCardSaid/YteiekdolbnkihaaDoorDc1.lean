/- DropCustom, the program's and the reference's. -/
import Derived.Test.YteiekdolbnkihaaDoorDl1
import Derived.Test.YteiekdolbnkihaaDoorGs3
set_option linter.unusedVariables false
set_option linter.unusedSimpArgs false
namespace Go.Proofs.YteiekdolbnkihaaDoor.L
open Go.RowKit
theorem owCases {α : Type} {ap : Bool} {e : Nat} {r : Rp α} {w : World} {F : Nat → Prop} {v : Value} {l : List α} (h : Ow ap e r w F v l) : (v = .slice none 0 0 ∧ l = []) ∨ ∃ g c, v = .slice (some ⟨g, 0, none⟩) l.length c ∧ F g ∧ g < w.heap.size := by
  have h' := h
  obtain ⟨φ, xs, ⟨_, h1⟩, _⟩ := h'
  rcases h1 with ⟨rfl, hn⟩ | ⟨g, cap, cur, rfl, _, _, hc, hm, _⟩
  · exact .inl ⟨rfl, List.eq_nil_of_length_eq_zero hn⟩
  · exact .inr ⟨g, cap, rfl, (h.lt_size (k := g) rfl)⟩
theorem enDrop : Enters Tryd.prog 59 := enters Tryd.func59 (by kernel_rfl) rfl
theorem dropFn_calls (x : Se) (w : World) :
    Calls Tryd.prog 59 #[seV x] w fun e w' => e = .returned (.bool (x.id == 0)) ∧ Below w.heap.size w w' := by
  unfold seV
  go_enter Tryd.func59, Tryd.ntmps59
  go_wp2
  go_ret
  exact ⟨rfl, below_new _⟩
def keep (l : List Se) : List Se := l.filter (fun x => !(x.id == 0))
def dropB (l : List Se) : List Se × Bool := if goodB l then (keep l, true) else ([], false)
theorem delNil_calls (w : World) : Calls Tryd.prog 57 #[.slice none 0 0, .func (.func 59) #[] #[]] w fun e w' => e = .returned (.slice none 0 0) ∧ Below w.heap.size w w' := by
  have HX := Lib.hid (ixSect_calls (.slice none 0 0) [] 59 #[] (fun x => x.id == 0) w (Rp.Rd.nil _ _ (fun _ => True)) enDrop (fun x hx => by cases hx))
  go_enter Tryd.func57, Tryd.ntmps57
  go_wp2_with fail
  refine HX.out.mono ?_
  rintro e w1 ⟨rfl, hb1⟩
  rw [show ixOf (fun x : Se => x.id == 0) [] = -1 from rfl]
  go_wp2
  go_ret
  exact ⟨rfl, hb1⟩
def pairV (v : Value) (b : Bool) : Value := .tuple #[v, .bool b]
set_option maxRecDepth 100000 in
set_option maxHeartbeats 4000000 in
theorem dropI_calls {F : Nat → Prop} (v : Value) (l : List Se) (w : World) (h : Rp.Rd sect w F v l) (hl : l.length ≤ 1048576) (hs : ∀ x ∈ l, x.body.size ≤ 1048576) (hT : Tabs w) :
    Calls Tryd.prog 30 #[v] w fun e w' => ∃ v', e = .returned (pairV v' (dropB l).2) ∧ Ow true 27 sect w' (fun k => w.heap.size ≤ k) v' (dropB l).1 ∧ Below w.heap.size w w' := by
  have HU : Hid (dropB l = if goodB l then (keep l, true) else ([], false)) := Lib.hid rfl
  have HG := goodSections_calls v l w h hl hs hT
  generalize goodB l = z at *
  have HG := Lib.hid HG
  have hv : ∃ A c, v = .slice A l.length c := by obtain ⟨A, c, rfl, _⟩ := rd_sect h; exact ⟨A, c, rfl⟩
  obtain ⟨A, c, rfl⟩ := hv
  cases z
  · go_enter Tryd.func30, Tryd.ntmps30
    go_wp2_with (go_at_call 19; refine HG.out.mono ?_; rintro e w1 ⟨rfl, hb⟩)
    exact bodyPost_ret (v := pairV (.slice none 0 0) false) (by simp [results, Tryd.results30, go_sem, pairV]) rfl ⟨_, by rw [HU.out]; rfl, by rw [HU.out]; exact Ow.nil _ _ _ _ _, hb⟩
  · go_enter Tryd.func30, Tryd.ntmps30
    go_wp2_with (go_at_call 19; refine HG.out.mono ?_; rintro e w1 ⟨rfl, hb⟩)
    refine (clone_calls _ l w1 (h.below hb) hl).mono ?_
    rintro e w2 ⟨v2, rfl, HO2, hb2⟩
    have HB2 := below_then hb hb2
    have HO2' := HO2.mono (G := fun k => w.heap.size ≤ k) (fun k hk => Nat.le_trans hb.size hk)
    clear HO2 hb hb2
    rcases owCases HO2' with ⟨rfl, rfl⟩ | ⟨g, c2, rfl, hg, _⟩
    · go_wp2_with fail
      refine (delNil_calls w2).mono ?_
      rintro e w3 ⟨rfl, hb3⟩
      go_wp2
      exact bodyPost_ret (v := pairV (.slice none 0 0) true) (by simp [results, Tryd.results30, go_sem, pairV]) rfl ⟨_, by rw [HU.out]; rfl, by rw [HU.out]; exact Ow.nil _ _ _ _ _, below_then HB2 hb3⟩
    · go_wp2_with fail
      refine (delSect_calls g c2 l 59 #[] (fun x => x.id == 0) w2 w w.heap.size HO2' hg HB2 HB2.size hl enDrop (fun x _ W _ => dropFn_calls x W)).mono ?_
      rintro e w3 ⟨v3, rfl, HO3, HB3⟩
      go_wp2
      exact bodyPost_ret (v := pairV v3 true) (by simp [results, Tryd.results30, go_sem, pairV]) rfl ⟨_, by rw [HU.out]; rfl, by rw [HU.out]; exact HO3, HB3⟩
set_option maxRecDepth 100000 in
set_option maxHeartbeats 4000000 in
theorem dropS_calls {F : Nat → Prop} (v : Value) (l : List Se) (w : World) (h : Rp.Rd sect w F v l) (hl : l.length ≤ 1048576) (hs : ∀ x ∈ l, x.body.size ≤ 1048576) :
    Calls Tryd.prog 29 #[v] w fun e w' => ∃ v', e = .returned (pairV v' (dropB l).2) ∧ Ow true 27 sect w' (fun k => w.heap.size ≤ k) v' (dropB l).1 ∧ Below w.heap.size w w' := by
  have HU : Hid (dropB l = if goodB l then (keep l, true) else ([], false)) := Lib.hid rfl
  have HG := goodSectionsS_calls v l w h hl hs
  rw [← good_same] at HG
  generalize goodB l = z at *
  have HG := Lib.hid HG
  obtain ⟨A, c, rfl, hlc, hcm, hrow⟩ := rd_sect h
  cases z
  · go_enter Tryd.func29, Tryd.ntmps29
    go_wp2_with (go_at_call 17; refine HG.out.mono ?_; rintro e w1 ⟨rfl, hb⟩)
    exact bodyPost_ret (v := pairV (.slice none 0 0) false) (by simp [results, Tryd.results29, go_sem, pairV]) rfl ⟨_, by rw [HU.out]; rfl, by rw [HU.out]; exact Ow.nil _ _ _ _ _, hb⟩
  · go_enter Tryd.func29, Tryd.ntmps29
    go_wp2_with (go_at_call 17; refine HG.out.mono ?_; rintro e w1 ⟨rfl, hb⟩)
    go_loopw [4, 12] (fun o i wr => ∃ k : Nat, k ≤ l.length ∧ i = .int .i64 k ∧ Ow true 27 sect wr (fun k => w.heap.size ≤ k) o (keep (l.take k)) ∧ Below w.heap.size w wr) (fun _ i _ => l.length - (intOf i).toNat)
    case atStart => exact ⟨0, Nat.zero_le _, rfl, Ow.nil _ _ _ _ _, hb⟩
    case round =>
      obtain ⟨k, hk, rfl, HO, HB⟩ := hrel
      have hB := HB.size
      by_cases hlt : k < l.length
      · rcases hrow with rfl | ⟨b, o, rfl, hb0, hcell⟩
        · simp at hlt
        have c1 := (hcell k hlt).below HB
        clear hcell
        obtain ⟨q0, q1⟩ := c1
        have HK : Hid (keep (l.take (k + 1)) = keep (l.take k) ++ if l[k].id == 0 then [] else [l[k]]) := Lib.hid (by
          rw [List.take_succ_eq_append_getElem hlt, keep, List.filter_append]
          congr 1
          cases hp : l[k].id == 0 <;> simp [hp])
        have hlen : (keep (l.take k)).length ≤ l.length := Nat.le_trans (List.length_filter_le _ _) (by simp; omega)
        obtain ⟨x, hx⟩ : ∃ x, l[k] = x := ⟨_, rfl⟩
        rw [hx] at q0 q1 HK
        clear hx
        by_cases hid : x.id = 0
        · have t1 : (x.id != 0) = false := by simpa using hid
          have t2 : (x.id == 0) = true := by simpa using hid
          rw [t2] at HK
          clear t2
          go_wp2
          go_roundw
          case rel => exact ⟨k + 1, by omega, by go_num, by rw [HK.out]; simpa using HO.below (below_new _), below_then HB (below_new _)⟩
          case measure => simp [intOf]; omega
        · have t1 : (x.id != 0) = true := by simpa using hid
          have t2 : (x.id == 0) = false := by simpa using hid
          rw [t2] at HK
          clear t2
          have tok1 : True := trivial
          go_wp2_with (at_builtin; have _t := tok1; refine acc_append1 (r := sect) (e := 27) (B := w.heap.size) (w0 := w) sect_flat (by rfl) _ _ 33 (.agg #[.int .i64 0, .string ByteArray.empty]) 24 (by rfl) Tryd.underlying33 infoSect rfl (by decide) (by omega) _ (keep (l.take k)) x [.int .i64 x.id, .string x.body] (by rfl) (by rw [World.size_alloc] <;> rfl) true (HO.below (below_new _)) (sect_mk _ _ x) (HB.alloc hB _) (by rw [World.size_alloc]; omega) (by omega) ?_; intro v2 w2 HO2 HB2 hB2; clear HO tok1)
          go_roundw
          case rel => exact ⟨k + 1, by omega, by go_num, by rw [HK.out]; exact HO2, HB2⟩
          case measure => simp [intOf]; omega
      · obtain rfl : k = l.length := by omega
        obtain ⟨A2, c2, rfl, _⟩ := HO.form
        go_wp2
        exact bodyPost_ret (v := pairV (.slice A2 (keep (l.take l.length)).length c2) true) (by simp [results, Tryd.results29, go_sem, pairV]) rfl ⟨_, by rw [HU.out]; rfl, by rw [HU.out]; simpa using HO, HB⟩
end Go.Proofs.YteiekdolbnkihaaDoor.L
