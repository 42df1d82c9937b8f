/- SectionAt, the program's and the reference's. -/
import Derived.Test.YteiekdolbnkihaaDoorGs1
import Derived.Test.YteiekdolbnkihaaDoorGs3
import Derived.Test.YteiekdolbnkihaaDoorIxS
set_option linter.unusedVariables false
set_option linter.unusedSimpArgs false
namespace Go.Proofs.YteiekdolbnkihaaDoor.L
open Go.RowKit
theorem enAt : Enters Tryd.prog 73 := enters Tryd.func73 (by kernel_rfl) rfl
theorem atFn_calls (x : Se) (ad : Addr) (id : Int) (w : World) (hc : w.cell? ad = some (.int .i64 id)) :
    Calls Tryd.prog 73 #[seV x, .pointer (some ad)] w fun e w' => e = .returned (.bool (x.id == id)) ∧ Below w.heap.size w w' := by
  have hc2 := cell_below (below_new (w := w) (.cells #[.int .i64 x.id, .string x.body] 27)) hc
  unfold seV
  go_enter Tryd.func73, Tryd.ntmps73
  go_wp2
  go_ret
  exact ⟨rfl, below_new _⟩
theorem sectionAt_calls {F : Nat → Prop} (v : Value) (l : List Se) (id : Int) (w : World) (h : Rp.Rd sect w F v l) :
    Calls Tryd.prog 49 #[v, .int .i64 id] w fun e w' => e = .returned (.int .i64 (ixOf (fun x => x.id == id) l)) ∧ Below w.heap.size w w' := by
  have hb := below_new (w := w) (.cells #[.int .i64 id] 3)
  have hbx : (w.alloc (.cells #[.int .i64 id] 3)).heap[w.heap.size]? = some (.cells #[.int .i64 id] 3 (0, 0)) := heap_alloc_new w _
  have HC := Lib.hid (ixSect_calls v l 73 #[.pointer (some ⟨w.heap.size, 0, none⟩)] (fun x => x.id == id) _ (h.below hb) enAt (fun x _ W hW => atFn_calls x ⟨w.heap.size, 0, none⟩ id W ((cell_of_block (blk_below hbx hW)).1 0)))
  clear hbx
  obtain ⟨A, c, rfl, _⟩ := rd_sect h
  go_enter Tryd.func49, Tryd.ntmps49
  go_wp2_with (go_at_call 67; refine HC.out.mono ?_; rintro e w1 ⟨rfl, hb1⟩)
  go_ret
  exact ⟨rfl, below_then hb hb1⟩
def atOf (l : List Se) (id : Int) : Option ByteArray := match l.findIdx? (fun x => x.id == id) with | none => none | some i => (l[i]?).map Se.body
def atB (l : List Se) (id : Int) : Option ByteArray := if goodB l && inB id 1 11 then atOf l id else none
theorem atOf_hit {l : List Se} {id : Int} {k : Nat} (hk : k < l.length) (h : ∀ (j : Nat) (hj : j < l.length), j < k → (l[j].id == id) = false) (hp : (l[k].id == id) = true) : atOf l id = some l[k].body := by
  have : l.findIdx? (fun x => x.id == id) = some k := by
    rw [List.findIdx?_eq_some_iff_getElem]
    exact ⟨hk, hp, fun j hj => by simpa using h j (by omega) hj⟩
  rw [atOf, this]
  simp [hk]
theorem atOf_none {l : List Se} {id : Int} (h : ∀ (j : Nat) (hj : j < l.length), (l[j].id == id) = false) : atOf l id = none := by
  have : l.findIdx? (fun x => x.id == id) = none := by
    rw [List.findIdx?_eq_none_iff]
    intro x hx
    obtain ⟨j, hj, rfl⟩ := List.getElem_of_mem hx
    exact h j hj
  rw [atOf, this]
theorem atOf_ix (l : List Se) (id : Int) : (ixOf (fun x => x.id == id) l = -1 ∧ atOf l id = none) ∨ ∃ (k : Nat) (hk : k < l.length), ixOf (fun x => x.id == id) l = k ∧ atOf l id = some l[k].body ∧ l[k].id = id := by
  unfold ixOf atOf
  cases h : l.findIdx? (fun x => x.id == id) with
  | none => exact .inl ⟨rfl, rfl⟩
  | some i =>
    rw [List.findIdx?_eq_some_iff_getElem] at h
    obtain ⟨h1, h2, _⟩ := h
    exact .inr ⟨i, h1, rfl, by simp [h1], by simpa using h2⟩
set_option maxRecDepth 100000 in
set_option maxHeartbeats 4000000 in
theorem sectionAtI_calls {F : Nat → Prop} (v : Value) (l : List Se) (id : Int) (w : World) (h : Rp.Rd sect w F v l) (hl : l.length ≤ 1048576) (hs : ∀ x ∈ l, x.body.size ≤ 1048576) (hT : Tabs w) :
    Calls Tryd.prog 22 #[v, .int .i64 id] w fun e w' => e = .returned (nameV (atB l id)) ∧ Below w.heap.size w w' := by
  have HU : Hid (atB l id = if goodB l && inB id 1 11 then atOf l id else none) := Lib.hid rfl
  have HG := goodSections_calls v l w h hl hs hT
  generalize goodB l = z at *
  have HG := Lib.hid HG
  obtain ⟨A, c, rfl, hlc, hcm, hrow⟩ := rd_sect h
  cases z
  · go_enter Tryd.func22, Tryd.ntmps22
    go_wp2_with (go_at_call 19; refine HG.out.mono ?_; rintro e w1 ⟨rfl, hb⟩)
    exact bodyPost_ret (v := nameV none) (by simp [results, Tryd.results22, go_sem, nameV]) rfl ⟨by rw [HU.out]; rfl, hb⟩
  · cases hi : inB id 1 11
    · rw [hi] at HU
      go_enter Tryd.func22, Tryd.ntmps22
      go_wp2_with (first | (go_at_call 19; refine HG.out.mono ?_; rintro e w1 ⟨rfl, hb⟩) | (go_at_call 46; refine (within_calls _ _ _ _).mono ?_; rintro e w' ⟨rfl, rfl⟩))
      exact bodyPost_ret (v := nameV none) (by simp [results, Tryd.results22, go_sem, nameV]) rfl ⟨by rw [HU.out]; rfl, hb⟩
    · rw [hi] at HU
      go_enter Tryd.func22, Tryd.ntmps22
      go_wp2_with (first | (go_at_call 19; refine HG.out.mono ?_; rintro e w1 ⟨rfl, hb⟩) | (go_at_call 46; refine (within_calls _ _ _ _).mono ?_; rintro e w' ⟨rfl, rfl⟩))
      refine (sectionAt_calls _ l id _ (h.below hb)).mono ?_
      rintro e w2 ⟨rfl, hb2⟩
      replace hb := below_then hb hb2
      rcases atOf_ix l id with ⟨e1, e2⟩ | ⟨k, hk, e1, e2, _⟩
      · rw [e1]
        clear e1
        have E2 := Lib.hid e2
        clear e2
        go_wp2
        exact bodyPost_ret (v := nameV none) (by simp [results, Tryd.results22, go_sem, nameV]) rfl ⟨by rw [HU.out, E2.out]; rfl, hb⟩
      · rw [e1]
        clear e1
        have E2 := Lib.hid e2
        clear e2
        rcases hrow with rfl | ⟨b, o, rfl, hb0, hcell⟩
        · simp at hk
        have c1 := (hcell k hk).below hb
        clear hcell
        obtain ⟨q0, q1⟩ := c1
        generalize l[k].body = body at *
        go_wp2
        exact bodyPost_ret (v := nameV (some body)) (by simp [results, Tryd.results22, go_sem, nameV]) rfl ⟨by rw [HU.out, E2.out]; rfl, hb⟩
set_option maxRecDepth 100000 in
set_option maxHeartbeats 4000000 in
theorem sectionAtS_calls {F : Nat → Prop} (v : Value) (l : List Se) (id : Int) (w : World) (h : Rp.Rd sect w F v l) (hl : l.length ≤ 1048576) (hs : ∀ x ∈ l, x.body.size ≤ 1048576) :
    Calls Tryd.prog 21 #[v, .int .i64 id] w fun e w' => e = .returned (nameV (atB l id)) ∧ Below w.heap.size w w' := by
  have HU : Hid (atB l id = if goodB l && inB id 1 11 then atOf l id else none) := Lib.hid rfl
  have HG := goodSectionsS_calls v l w h hl hs
  rw [← good_same] at HG
  generalize goodB l = z at *
  have HG := Lib.hid HG
  obtain ⟨A, c, rfl, hlc, hcm, hrow⟩ := rd_sect h
  cases z
  · go_enter Tryd.func21, Tryd.ntmps21
    go_wp2_with (go_at_call 17; refine HG.out.mono ?_; rintro e w1 ⟨rfl, hb⟩)
    exact bodyPost_ret (v := nameV none) (by simp [results, Tryd.results21, go_sem, nameV]) rfl ⟨by rw [HU.out]; rfl, hb⟩
  · cases hi : inB id 1 11
    · rw [hi] at HU
      go_enter Tryd.func21, Tryd.ntmps21
      go_wp2_with (first | (go_at_call 17; refine HG.out.mono ?_; rintro e w1 ⟨rfl, hb⟩) | (go_at_call 48; refine (l1In_calls _ _ _ _).mono ?_; rintro e w' ⟨rfl, rfl⟩))
      exact bodyPost_ret (v := nameV none) (by simp [results, Tryd.results21, go_sem, nameV]) rfl ⟨by rw [HU.out]; rfl, hb⟩
    · rw [hi] at HU
      go_enter Tryd.func21, Tryd.ntmps21
      go_wp2_with (first | (go_at_call 17; refine HG.out.mono ?_; rintro e w1 ⟨rfl, hb⟩) | (go_at_call 48; refine (l1In_calls _ _ _ _).mono ?_; rintro e w' ⟨rfl, rfl⟩))
      go_loopw [18] (fun i wr => ∃ k : Nat, k ≤ l.length ∧ i = .int .i64 k ∧ Hid (∀ (j : Nat) (hj : j < l.length), j < k → (l[j].id == id) = false) ∧ Below w.heap.size w wr) (fun i _ => l.length - (intOf i).toNat)
      case atStart => exact ⟨0, Nat.zero_le _, rfl, Lib.hid (fun j _ hj => by omega), hb⟩
      case round =>
        obtain ⟨k, hk, rfl, HN, HB⟩ := hrel
        by_cases hlt : k < l.length
        · rcases hrow with rfl | ⟨b, o, rfl, hb0, hcell⟩
          · simp at hlt
          have c1 := (hcell k hlt).below HB
          clear hcell
          obtain ⟨q0, q1⟩ := c1
          obtain ⟨x, hx⟩ : ∃ x, l[k] = x := ⟨_, rfl⟩
          have HX := Lib.hid hx
          rw [hx] at q0 q1
          clear hx
          by_cases hid : x.id = id
          · have ht : (x.id == id) = true := by simpa using hid
            have HA : Hid (atOf l id = some x.body) := Lib.hid (by rw [← HX.out]; exact atOf_hit hlt HN.out (by rw [HX.out]; exact ht))
            go_wp2
            exact bodyPost_ret (v := nameV (some x.body)) (by simp [results, Tryd.results21, go_sem, nameV]) rfl ⟨by rw [HU.out, HA.out]; rfl, below_then HB (below_new _)⟩
          · have ht : (x.id == id) = false := by simpa using hid
            go_wp2
            go_roundw
            case rel => exact ⟨k + 1, by omega, by go_num, Lib.hid (fun j hj hjk => (Nat.lt_or_eq_of_le (Nat.le_of_lt_succ hjk)).elim (fun h => HN.out j hj h) (fun h => by subst h; rw [HX.out]; exact ht)), below_then HB (below_new _)⟩
            case measure => simp [intOf]; omega
        · obtain rfl : k = l.length := by omega
          have HA : Hid (atOf l id = none) := Lib.hid (atOf_none (fun j hj => HN.out j hj hj))
          go_wp2
          exact bodyPost_ret (v := nameV none) (by simp [results, Tryd.results21, go_sem, nameV]) rfl ⟨by rw [HU.out, HA.out]; rfl, HB⟩
end Go.Proofs.YteiekdolbnkihaaDoor.L
