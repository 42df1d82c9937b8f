/- Names: the program's name, IsUtf8 (the library's utf8.ValidString by its contract), NameOf. -/
import Derived.Test.YteiekdolbnkihaaDoorTk1
import Derived.Ground.NamesProg
import Derived.WalkKit
import Derived.WalkMore
import Derived.Below
import Derived.Shelf.Unicode.ValidAny
set_option linter.unusedVariables false
set_option linter.unusedSimpArgs false
namespace Go.Proofs
open Go.RowKit Go.Shelf Go.Lib
def Tryd.laysValid_ren : Go.Shelf.Ren := ⟨fun | 196 => 63 | 259 => 76 | n => n, fun | 9 => 9 | 4 => 4 | 3 => 3 | 5 => 5 | 12 => 12 | 119 => 88 | 0 => 0 | 46 => 80 | 139 => 91 | 138 => 90 | 53 => 72 | n => n, fun | 3 => 0 | 4 => 1 | n => n⟩
theorem Tryd.laysValid : Go.Proofs.Lays.n196 Tryd.prog Tryd.laysValid_ren := {
  mixed := by kernel_rfl
  f196 := Tryd.func63.trans (congrArg some (by kernel_rfl))
  f259 := Tryd.func76.trans (congrArg some (by kernel_rfl))
  t0 := Tryd.underlying0
  a0 := Tryd.isAgg0
  z0 := Tryd.sizeOf0
  v0 := Tryd.zeroValue0
  t3 := Tryd.underlying3
  a3 := Tryd.isAgg3
  z3 := Tryd.sizeOf3
  v3 := Tryd.zeroValue3
  t4 := Tryd.underlying4
  a4 := Tryd.isAgg4
  z4 := Tryd.sizeOf4
  v4 := Tryd.zeroValue4
  t5 := Tryd.underlying5
  a5 := Tryd.isAgg5
  z5 := Tryd.sizeOf5
  v5 := Tryd.zeroValue5
  t9 := Tryd.underlying9
  a9 := Tryd.isAgg9
  z9 := Tryd.sizeOf9
  v9 := Tryd.zeroValue9
  t12 := Tryd.underlying12
  a12 := Tryd.isAgg12
  z12 := Tryd.sizeOf12
  v12 := Tryd.zeroValue12
  t46 := Tryd.underlying80
  a46 := Tryd.isAgg80
  z46 := Tryd.sizeOf80
  v46 := Tryd.zeroValue80
  t53 := Tryd.underlying72
  a53 := Tryd.isAgg72
  z53 := Tryd.sizeOf72
  v53 := Tryd.zeroValue72
  t119 := Tryd.underlying88
  a119 := Tryd.isAgg88
  z119 := Tryd.sizeOf88
  t138 := Tryd.underlying90
  a138 := Tryd.isAgg90
  z138 := Tryd.sizeOf90
  v138 := Tryd.zeroValue90
  t139 := Tryd.underlying91
  a139 := Tryd.isAgg91
  z139 := Tryd.sizeOf91
  v139 := Tryd.zeroValue91
  g3 := by kernel_rfl
  g4 := by kernel_rfl }
namespace YteiekdolbnkihaaDoor.L
def Tabs (w : World) : Prop := Lib.Utf8Tabs (Tryd.laysValid_ren.g 3) (Tryd.laysValid_ren.g 4) w
theorem Tabs.below {w w1 : World} (h : Tabs w) (hb : Below w.heap.size w w1) : Tabs w1 := Utf8Tabs_below h hb
theorem isUtf8_calls (s : ByteArray) (w : World) (hs : s.size ≤ 1048576) (hT : Tabs w) :
    Calls Tryd.prog 34 #[.string s] w fun e w' => e = .returned (.bool (validD s.data.toList)) ∧ Below w.heap.size w w' := by
  have cV : Calls Tryd.prog 63 #[.string s] w _ := Any.utf8_ValidString Tryd.laysValid s w (by omega) hT
  generalize validD s.data.toList = V at *
  go_enter Tryd.func34, Tryd.ntmps34
  go_wp2_with (go_at_call 63; refine cV.mono ?_; rintro e w' ⟨rfl, hb⟩)
  go_ret
  exact ⟨rfl, hb⟩
def nameV (r : Option ByteArray) : Value := .tuple #[.string (r.getD (ByteArray.mk #[])), .bool r.isSome]
set_option maxRecDepth 100000 in
set_option maxHeartbeats 2000000 in
theorem name_calls (s : ByteArray) (w : World) (hs : s.size ≤ 1048576) (hT : Tabs w) :
    Calls Tryd.prog 45 #[.string s] w fun e w' => e = .returned (nameV (nameB s)) ∧ Below w.heap.size w w' := by
  have HC := Lib.hid (fun W => takeU_calls s 0 W hs (by omega))
  have HU : Hid (nameB s = match tkU s 0 with | none => none | some (n, e) => if e + n ≤ s.size ∧ validD (s.extract e (e + n)).data.toList = true then some (s.extract e (e + n)) else none) := Lib.hid rfl
  have hb := fun m e => tkU_le (s := s) (i := 0) (m := m) (e := e)
  generalize tkU s 0 = r at *
  rcases r with _ | ⟨n, e⟩
  · unfold tkUV at HC
    clear hb
    go_enter Tryd.func45, Tryd.ntmps45
    go_wp2_with (go_at_call 72; refine (HC.out _).mono ?_; rintro e w' ⟨rfl, rfl⟩)
    exact bodyPost_ret (v := nameV none) (by simp [results, Tryd.results45, go_sem, nameV]) rfl ⟨by rw [HU.out], Below.refl _ _⟩
  · obtain ⟨h1, h2, h3⟩ := hb n e rfl
    unfold tkUV at HC
    by_cases hle : e + n ≤ s.size
    · have hle2 : ¬ (s.size : Int) - (e : Int) < (n : Int) := by omega
      obtain ⟨t, ht⟩ : ∃ t, s.extract e (e + n) = t := ⟨_, rfl⟩
      have hts : t.size ≤ 1048576 := by rw [← ht, ByteArray.size_extract]; omega
      have HV := isUtf8_calls t w hts hT
      have HU2 : Hid (nameB s = if validD t.data.toList = true then some t else none) := Lib.hid (by rw [HU.out]; simp only [ht]; by_cases hv : validD t.data.toList = true <;> simp [hle, hv])
      generalize validD t.data.toList = V at *
      have HV := Lib.hid HV
      have s1 : (0 : Int) ≤ (e : Int) := by omega
      have s2 : (e : Int) ≤ (e : Int) + (n : Int) := by omega
      have s3 : (e : Int) + (n : Int) ≤ (s.size : Int) := by omega
      have s4 : ((e : Int) + (n : Int)).toNat = e + n := by omega
      go_enter Tryd.func45, Tryd.ntmps45
      go_wp2_with (first | (go_at_call 72; refine (HC.out _).mono ?_; rintro e w' ⟨rfl, rfl⟩) | (go_at_call 34; refine HV.out.mono ?_; rintro e w' ⟨rfl, hb⟩))
      · refine bodyPost_ret (v := nameV none) (by simp [results, Tryd.results45, go_sem, nameV]) rfl ⟨?_, hb⟩
        rw [HU2.out]
        rename_i hV
        cases V
        · rfl
        · exfalso; simp at hV; omega
      · refine bodyPost_ret (v := nameV (some t)) (by simp [results, Tryd.results45, go_sem, nameV]) rfl ⟨?_, hb⟩
        rw [HU2.out]
        rename_i hV
        cases V
        · exfalso; simp at hV
        · rfl
    · have hle2 : (s.size : Int) - (e : Int) < (n : Int) := by omega
      go_enter Tryd.func45, Tryd.ntmps45
      go_wp2_with (go_at_call 72; refine (HC.out _).mono ?_; rintro e w' ⟨rfl, rfl⟩)
      exact bodyPost_ret (v := nameV none) (by simp [results, Tryd.results45, go_sem, nameV]) rfl ⟨by rw [HU.out]; exact congrArg (fun o => Ending.returned (nameV o)) (if_neg (by omega)).symm, Below.refl _ _⟩
def nameOf (x : Se) : Option ByteArray := if x.id = 0 ∧ x.body.size ≤ 200 then nameB x.body else none
set_option maxRecDepth 100000 in
set_option maxHeartbeats 2000000 in
theorem nameOf_calls (x : Se) (w : World) (hs : x.body.size ≤ 1048576) (hT : Tabs w) :
    Calls Tryd.prog 15 #[seV x] w fun e w' => e = .returned (nameV (nameOf x)) ∧ Below w.heap.size w w' := by
  have HC := Lib.hid (fun W (h : Tabs W) => name_calls x.body W hs h)
  have HU : Hid (nameOf x = if x.id = 0 ∧ x.body.size ≤ 200 then nameB x.body else none) := Lib.hid rfl
  generalize nameB x.body = r at *
  unfold nameV at HC
  unfold seV
  go_enter Tryd.func15, Tryd.ntmps15
  go_wp2_with (go_at_call 45; refine (HC.out _ (hT.below (below_new _))).mono ?_; rintro e w1 ⟨rfl, hb⟩)
  · rename_i h1 h2
    exact bodyPost_ret (v := nameV none) (by simp [results, Tryd.results15, go_sem, nameV]) rfl ⟨by rw [HU.out, if_neg (by omega)], below_new _⟩
  · rename_i h1 h2
    exact bodyPost_ret (v := nameV r) (by simp [results, Tryd.results15, go_sem, nameV]) rfl ⟨by rw [HU.out, if_pos ⟨h1, by omega⟩], below1 hb⟩
  · rename_i h1
    exact bodyPost_ret (v := nameV none) (by simp [results, Tryd.results15, go_sem, nameV]) rfl ⟨by rw [HU.out, if_neg (fun h => h1 h.1)], below_new _⟩
end YteiekdolbnkihaaDoor.L
end Go.Proofs
