/- The reference's TakeU32, l2Name, l2One, GoodSections, NameOf. -/
import Derived.Test.YteiekdolbnkihaaDoorGs2
import Derived.Test.YteiekdolbnkihaaDoorNm1
set_option linter.unusedVariables false
set_option linter.unusedSimpArgs false
namespace Go.Proofs.YteiekdolbnkihaaDoor.L
open Go.RowKit Go.Lib
theorem l1U32_calls (n : Int) (w : World) : Calls Tryd.prog 53 #[.int .i64 n] w fun e w' => e = .returned (.bool (inB n 0 4294967295)) ∧ w = w' := by
  go_enter Tryd.func53, Tryd.ntmps53
  go_wp2_with (go_at_call 48; refine (l1In_calls _ _ _ _).mono ?_; rintro e w' ⟨rfl, rfl⟩)
  go_ret
  exact ⟨rfl, rfl⟩
def textB (s : ByteArray) (i : Nat) : Bool := decide (s.size ≤ 1000) && decide (i < s.size)
theorem l1Text_calls (s : ByteArray) (i : Nat) (w : World) (hs : s.size ≤ 1048576) (hi : i ≤ 1048577) : Calls Tryd.prog 79 #[.string s, .int .i64 i] w fun e w' => e = .returned (.bool (textB s i)) ∧ w = w' := by
  have HP : Hid (textB s i = (decide ((s.size : Int) ≤ 1000) && decide ((i : Int) < (s.size : Int)))) := Lib.hid (by unfold textB; rw [Bool.eq_iff_iff]; simp; omega)
  have h0 : (0 : Int) ≤ (i : Int) := by omega
  go_enter Tryd.func79, Tryd.ntmps79
  go_wp2
  all_goals
    go_ret
    refine ⟨ret_bool ?_, rfl⟩
    rw [HP.out]
    simp <;> omega
def tkUVs (r : Option (Nat × Nat)) : Value := .tuple #[.int .i64 ((r.map Prod.fst).getD 0 : Nat), .int .i64 ((r.map Prod.snd).getD 0 : Nat), .bool r.isSome]
def tkUS (s : ByteArray) (i : Nat) : Option (Nat × Nat) := if textB s i then tkU s i else none
set_option maxRecDepth 100000 in
set_option maxHeartbeats 4000000 in
theorem takeU32_calls (s : ByteArray) (i : Nat) (w : World) (hs : s.size ≤ 1048576) (hi : i ≤ 1048577) :
    Calls Tryd.prog 71 #[.string s, .int .i64 i] w fun e w' => e = .returned (tkUV (tkUS s i)) ∧ w = w' := by
  have HT := Lib.hid (fun W => l1Text_calls s i W hs hi)
  have HC := Lib.hid (fun W => l1Take_calls s i W hs hi)
  have HU : Hid (tkUS s i = if textB s i then (match tk s 5 0 0 i with | none => none | some (n, _, e) => if n ≤ 4294967295 then some (n, e) else none) else none) := Lib.hid rfl
  have hb := fun m k' e => tk_le (s := s) (f := 5) (k := 0) (n := 0) (i := i) (m := m) (k' := k') (e := e) (by omega)
  generalize tk s 5 0 0 i = r at *
  generalize textB s i = z at *
  cases z
  · clear HC hb
    go_enter Tryd.func71, Tryd.ntmps71
    go_wp2_with (go_at_call 79; refine (HT.out _).mono ?_; rintro e w' ⟨rfl, rfl⟩)
    exact bodyPost_ret (v := tkUV none) (by simp [results, Tryd.results71, go_sem, tkUV]) rfl ⟨by rw [HU.out]; rfl, rfl⟩
  · rcases r with _ | ⟨n, k, e⟩
    · unfold tkSV at HC
      clear hb
      go_enter Tryd.func71, Tryd.ntmps71
      go_wp2_with (first | (go_at_call 79; refine (HT.out _).mono ?_; rintro e w' ⟨rfl, rfl⟩) | (go_at_call 52; refine (HC.out _).mono ?_; rintro e w' ⟨rfl, rfl⟩))
      exact bodyPost_ret (v := tkUV none) (by simp [results, Tryd.results71, go_sem, tkUV]) rfl ⟨by rw [HU.out]; rfl, rfl⟩
    · obtain ⟨h1, h2, h3, _, _⟩ := hb n k e rfl
      unfold tkSV at HC
      have he : ((e : Int) == 0) = false := by rw [beq_eq_false_iff_ne]; omega
      have HI : Hid (inB (n : Int) 0 4294967295 = decide (n ≤ 4294967295)) := Lib.hid (by unfold inB; rw [Bool.eq_iff_iff]; simp; omega)
      go_enter Tryd.func71, Tryd.ntmps71
      go_wp2_with (first | (go_at_call 79; refine (HT.out _).mono ?_; rintro e w' ⟨rfl, rfl⟩) | (go_at_call 52; refine (HC.out _).mono ?_; rintro e w' ⟨rfl, rfl⟩) | (go_at_call 53; refine (l1U32_calls _ _).mono ?_; rintro e w' ⟨rfl, rfl⟩))
      · rename_i hI
        rw [HI.out] at hI
        have hI2 : ¬ n ≤ 4294967295 := fun hd => by rw [decide_eq_true hd] at hI; cases hI
        exact bodyPost_ret (v := tkUV none) (by simp [results, Tryd.results71, go_sem, tkUV]) rfl ⟨by rw [HU.out]; exact congrArg (fun o => Ending.returned (tkUV o)) (if_neg hI2).symm, rfl⟩
      · rename_i hI
        rw [HI.out] at hI
        have hI2 : n ≤ 4294967295 := by
          by_cases hd : n ≤ 4294967295
          · exact hd
          · rw [decide_eq_false hd] at hI; cases hI
        exact bodyPost_ret (v := tkUV (some (n, e))) (by simp [results, Tryd.results71, go_sem, tkUV]) rfl ⟨by rw [HU.out]; exact congrArg (fun o => Ending.returned (tkUV o)) (if_pos hI2).symm, rfl⟩
theorem tkUS_name (s : ByteArray) : nameS s = match tkUS s 0 with | none => none | some (n, e) => if e + n ≤ s.size ∧ validD (s.extract e (e + n)).data.toList = true then some (s.extract e (e + n)) else none := by
  unfold nameS tkUS textB
  by_cases h1 : s.size ≤ 1000
  · by_cases h2 : 0 < s.size
    · simp only [h1, h2, decide_true, Bool.and_true, if_true]; rfl
    · rw [if_pos h1, nameB_nil (by omega)]; simp [h2]
  · simp [h1]
set_option maxRecDepth 100000 in
set_option maxHeartbeats 4000000 in
theorem l2Name_calls (s : ByteArray) (w : World) (hs : s.size ≤ 1048576) :
    Calls Tryd.prog 44 #[.string s] w fun e w' => e = .returned (nameV (nameS s)) ∧ w = w' := by
  have HC := Lib.hid (fun W => takeU32_calls s 0 W hs (by omega))
  have HU : Hid (nameS s = match tkUS s 0 with | none => none | some (n, e) => if e + n ≤ s.size ∧ validD (s.extract e (e + n)).data.toList = true then some (s.extract e (e + n)) else none) := Lib.hid (tkUS_name s)
  have hb : ∀ m e, tkUS s 0 = some (m, e) → 0 < e ∧ e ≤ s.size ∧ m ≤ 4294967295 := by
    intro m e h
    unfold tkUS at h
    split at h
    · exact tkU_le h
    · cases h
  generalize tkUS s 0 = r at *
  rcases r with _ | ⟨n, e⟩
  · unfold tkUV at HC
    clear hb
    go_enter Tryd.func44, Tryd.ntmps44
    go_wp2_with (go_at_call 71; refine (HC.out _).mono ?_; rintro e w' ⟨rfl, rfl⟩)
    exact bodyPost_ret (v := nameV none) (by simp [results, Tryd.results44, go_sem, nameV]) rfl ⟨by rw [HU.out], rfl⟩
  · obtain ⟨h1, h2, h3⟩ := hb n e rfl
    unfold tkUV at HC
    by_cases hle : e + n ≤ s.size
    · have hle2 : ¬ (s.size : Int) - (e : Int) < (n : Int) := by omega
      obtain ⟨t, ht⟩ : ∃ t, s.extract e (e + n) = t := ⟨_, rfl⟩
      have hts : t.size ≤ 1048576 := by rw [← ht, ByteArray.size_extract]; omega
      have HV := isUtf8S_calls t w hts
      have HU2 : Hid (nameS s = if validD t.data.toList = true then some t else none) := Lib.hid (by rw [HU.out]; simp only [ht]; by_cases hv : validD t.data.toList = true <;> simp [hle, hv])
      generalize validD t.data.toList = V at *
      have HV := Lib.hid HV
      have s1 : (0 : Int) ≤ (e : Int) := by omega
      have s2 : (e : Int) ≤ (e : Int) + (n : Int) := by omega
      have s3 : (e : Int) + (n : Int) ≤ (s.size : Int) := by omega
      have s4 : ((e : Int) + (n : Int)).toNat = e + n := by omega
      go_enter Tryd.func44, Tryd.ntmps44
      go_wp2_with (first | (go_at_call 71; refine (HC.out _).mono ?_; rintro e w' ⟨rfl, rfl⟩) | (go_at_call 36; refine HV.out.mono ?_; rintro e w' ⟨rfl, rfl⟩))
      · refine bodyPost_ret (v := nameV none) (by simp [results, Tryd.results44, go_sem, nameV]) rfl ⟨?_, rfl⟩
        rw [HU2.out]
        rename_i hV
        cases V
        · rfl
        · exfalso; simp at hV; omega
      · refine bodyPost_ret (v := nameV (some t)) (by simp [results, Tryd.results44, go_sem, nameV]) rfl ⟨?_, rfl⟩
        rw [HU2.out]
        rename_i hV
        cases V
        · exfalso; simp at hV
        · rfl
    · have hle2 : (s.size : Int) - (e : Int) < (n : Int) := by omega
      go_enter Tryd.func44, Tryd.ntmps44
      go_wp2_with (go_at_call 71; refine (HC.out _).mono ?_; rintro e w' ⟨rfl, rfl⟩)
      exact bodyPost_ret (v := nameV none) (by simp [results, Tryd.results44, go_sem, nameV]) rfl ⟨by rw [HU.out]; exact congrArg (fun o => Ending.returned (nameV o)) (if_neg (by omega)).symm, rfl⟩
set_option maxRecDepth 100000 in
set_option maxHeartbeats 4000000 in
theorem l2One_calls (x : Se) (w : World) (hs : x.body.size ≤ 1048576) :
    Calls Tryd.prog 43 #[seV x] w fun e w' => e = .returned (.bool (oneS x)) ∧ Below w.heap.size w w' := by
  have HC := Lib.hid (fun W => l2Name_calls x.body W hs)
  have HU : Hid (oneS x = ((!(x.id == 0) || (nameS x.body).isSome) && (inB x.id 0 11 && decide ((x.body.size : Int) ≤ 200)))) := Lib.hid (by unfold oneS; congr 2; rw [Bool.eq_iff_iff]; simp; omega)
  unfold nameV at HC
  unfold seV
  generalize nameS x.body = r at *
  generalize x.id = id at *
  generalize x.body = body at *
  go_enter Tryd.func43, Tryd.ntmps43
  go_wp2_with (first | (go_at_call 44; refine (HC.out _).mono ?_; rintro e w' ⟨rfl, rfl⟩) | (go_at_call 48; refine (l1In_calls _ _ _ _).mono ?_; rintro e w' ⟨rfl, rfl⟩))
  all_goals
    go_ret
    refine ⟨ret_bool ?_, below_new _⟩
    rw [HU.out]
    clear HU HC
    cases r <;> simp_all
set_option maxRecDepth 100000 in
set_option maxHeartbeats 4000000 in
theorem goodSectionsS_calls {F : Nat → Prop} (v : Value) (l : List Se) (w : World) (h : Rp.Rd sect w F v l) (hl : l.length ≤ 1048576) (hs : ∀ x ∈ l, x.body.size ≤ 1048576) :
    Calls Tryd.prog 17 #[v] w fun e w' => e = .returned (.bool (goodS l)) ∧ Below w.heap.size w w' := by
  obtain ⟨A, c, rfl, hlc, hcm, hrow⟩ := rd_sect h
  go_enter Tryd.func17, Tryd.ntmps17
  go_wp2_with fail
  go_loopw [3, 8] (fun t i wr => ∃ (k : Nat) (u : Int), k ≤ l.length ∧ i = .int .i64 k ∧ t = .int .i64 u ∧ Hid (loopS u (l.drop k) = loopS 0 l) ∧ Below w.heap.size w wr) (fun _ i _ => l.length - (Go.RowKit.intOf i).toNat)
  case atStart => exact ⟨0, 0, Nat.zero_le _, rfl, rfl, Lib.hid rfl, Below.refl _ _⟩
  case round =>
    obtain ⟨k, u, hk, rfl, rfl, HH, HB⟩ := hrel
    by_cases hlt : k < l.length
    · rcases hrow with rfl | ⟨b, o, rfl, hb, hcell⟩
      · simp at hlt
      have c1 := (hcell k hlt).below HB
      clear hcell
      obtain ⟨q0, q1⟩ := c1
      have hsz := hs l[k] (List.getElem_mem hlt)
      have HC := Lib.hid (fun W => l2One_calls l[k] W hsz)
      have HN : Hid (loopS u (l.drop k) = if !oneS l[k] || (!(l[k].id == 0) && decide (l[k].id ≤ u)) then false else loopS (if l[k].id == 0 then u else l[k].id) (l.drop (k + 1))) := Lib.hid (by rw [List.drop_eq_getElem_cons hlt, loopS])
      unfold seV at HC
      generalize oneS l[k] = z at *
      generalize l[k].id = id at *
      generalize l[k].body = body at *
      go_wp2_with (go_at_call 43; refine (HC.out _).mono ?_; rintro e w1 ⟨rfl, hb1⟩; have hbk := (boxed1 hb1).1; have e0 := (cell_of_block hbk).1 0; simp at e0; clear hbk)
      · have h1 : z = true := by assumption
        have h2 : id = 0 := by assumption
        subst h1 h2
        go_roundw
        case rel => exact ⟨k + 1, u, by omega, by go_num, rfl, Lib.hid (by rw [← HH.out, HN.out]; rfl), below_then HB (below1 hb1)⟩
        case measure => simp [Go.RowKit.intOf]; omega
      · have h1 : z = true := by assumption
        have h2 : ¬ id = 0 := by assumption
        have h3 : (id != 0) = true ∧ id ≤ u := by assumption
        subst h1
        go_ret
        exact ⟨ret_bool (by unfold goodS; rw [← HH.out, HN.out, if_pos (by simp [h2, h3.2])]; rfl), below_then HB (below1 hb1)⟩
      · have h1 : z = true := by assumption
        have h2 : ¬ id = 0 := by assumption
        have h3 : (id != 0) = false ∨ u < id := by assumption
        subst h1
        go_roundw
        case rel => exact ⟨k + 1, id, by omega, by go_num, rfl, Lib.hid (by rw [← HH.out, HN.out, if_neg (by simp [h2]; rcases h3 with h3 | h3 <;> simp_all), if_neg (by simpa using h2)]), below_then HB (below1 hb1)⟩
        case measure => simp [Go.RowKit.intOf]; omega
      · have h1 : ¬ z = true := by assumption
        go_ret
        exact ⟨ret_bool (by unfold goodS; rw [← HH.out, HN.out, if_pos (by simp [h1])]; rfl), below_then HB (below1 hb1)⟩
    · obtain rfl : k = l.length := by omega
      go_wp2
      go_ret
      exact ⟨ret_bool (by unfold goodS; rw [← HH.out, List.drop_length, loopS, Bool.true_and, Bool.eq_iff_iff]; simp; omega), HB⟩
def nameOfS (x : Se) : Option ByteArray := if x.id = 0 ∧ oneS x = true then nameS x.body else none
set_option maxRecDepth 100000 in
set_option maxHeartbeats 2000000 in
theorem nameOfS_calls (x : Se) (w : World) (hs : x.body.size ≤ 1048576) :
    Calls Tryd.prog 13 #[seV x] w fun e w' => e = .returned (nameV (nameOfS x)) ∧ Below w.heap.size w w' := by
  have HC := Lib.hid (fun W => l2One_calls x W hs)
  have HD := Lib.hid (fun W => l2Name_calls x.body W hs)
  have HU : Hid (nameOfS x = if x.id = 0 ∧ oneS x = true then nameS x.body else none) := Lib.hid rfl
  unfold seV at HC
  generalize nameS x.body = r at *
  generalize oneS x = z at *
  unfold nameV at HD
  unfold seV
  generalize x.id = id at *
  generalize x.body = body at *
  by_cases h0 : id = 0
  · subst h0
    cases z
    · clear HD
      go_enter Tryd.func13, Tryd.ntmps13
      go_wp2_with (first | (go_at_call 43; refine (HC.out _).mono ?_; rintro e w1 ⟨rfl, hb1⟩))
      exact bodyPost_ret (v := nameV none) (by simp [results, Tryd.results13, go_sem, nameV]) rfl ⟨by rw [HU.out]; rfl, below1 hb1⟩
    · go_enter Tryd.func13, Tryd.ntmps13
      go_wp2_with (first | (go_at_call 43; refine (HC.out _).mono ?_; rintro e w1 ⟨rfl, hb1⟩; have hbk := (boxed1 hb1).1; have e1 := (cell_of_block hbk).1 1; simp at e1; clear hbk) | (go_at_call 44; refine (HD.out _).mono ?_; rintro e w2 ⟨rfl, rfl⟩))
      exact bodyPost_ret (v := nameV r) (by simp [results, Tryd.results13, go_sem, nameV]) rfl ⟨by rw [HU.out]; rfl, below1 hb1⟩
  · have t1 : (id != 0) = true := by simpa using h0
    clear HC HD
    go_enter Tryd.func13, Tryd.ntmps13
    go_wp2
    exact bodyPost_ret (v := nameV none) (by simp [results, Tryd.results13, go_sem, nameV]) rfl ⟨by rw [HU.out, if_neg (fun h => h0 h.1)], below_new _⟩
end Go.Proofs.YteiekdolbnkihaaDoor.L
