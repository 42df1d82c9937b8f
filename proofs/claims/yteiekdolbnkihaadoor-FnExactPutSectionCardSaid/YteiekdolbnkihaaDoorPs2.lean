/- The program's PutSection. -/
import Derived.Test.YteiekdolbnkihaaDoorPs1
import Derived.Test.YteiekdolbnkihaaDoorIn1
import Derived.Test.YteiekdolbnkihaaDoorAt1
import Derived.Test.YteiekdolbnkihaaDoorDc1
import Derived.Test.YteiekdolbnkihaaDoorMt1
set_option linter.unusedVariables false
set_option linter.unusedSimpArgs false
namespace Go.Proofs.YteiekdolbnkihaaDoor.L
open Go.RowKit
/-- slices.Insert of one section, whatever road. -/
theorem insAny_calls (v : Value) (i : Nat) (l : List Se) (x : Se) (w : World) (B : Nat) (w0 : World) (HO : Ow true 27 sect w (fun k => B ≤ k) v l) (HB : Below B w0 w) (hBw : B ≤ w.heap.size) (hl : l.length ≤ 1048576) (hi : i ≤ l.length) (vb : Nat)
    (hvb : w.heap[vb]? = some (.cells #[.int .i64 x.id, .string x.body] 27 (0, 0))) (hne : v.ownBlock ≠ some vb) :
    Calls Tryd.prog 69 #[v, .int .i64 i, .slice (some ⟨vb, 0, none⟩) 1 1] w fun e w' =>
      ∃ v', e = .returned v' ∧ Ow true 27 sect w' (fun k => B ≤ k) v' (l.take i ++ [x] ++ l.drop i) ∧ Below B w0 w' := by
  rcases owCases HO with ⟨rfl, rfl⟩ | ⟨g, c, rfl, hg, _⟩
  · obtain rfl : i = 0 := by simpa using hi
    have HX : Rp.Rd sect w (fun _ => True) (.slice (some ⟨vb, 0, none⟩) 1 1) [x] := ⟨_, 1, rfl, Nat.le_refl _, by unfold maxLen; omega, .inr ⟨vb, 0, rfl, trivial, (Array.getElem?_eq_some_iff.1 hvb).1, fun i y hy => by
      cases i with
      | zero =>
        simp at hy
        subst hy
        refine ⟨_, sect_mk _ _ x, fun j u hu => ?_⟩
        rw [(cell_of_block hvb).1, ← Array.getElem?_toList]
        simpa using hu
      | succ i => simp at hy⟩⟩
    clear hvb
    have tok1 : True := trivial
    go_enter Tryd.func69, Tryd.ntmps69
    go_wp2_with (at_builtin; have _t := tok1; refine acc_appendf (r := sect) (e := 27) (B := B) (w0 := w0) sect_flat (by rfl) _ _ 33 (.agg #[.int .i64 0, .string ByteArray.empty]) 24 (by rfl) Tryd.underlying33 infoSect rfl (by decide) (by omega) (.slice none 0 0) (.slice (some ⟨vb, 0, none⟩) 1 1) [] [x] (by rfl) (by rfl) true HO HX HB hBw (by simp) ?_; intro v1 w1 HO1 HB1 hB1; clear tok1)
    go_ret
    exact ⟨_, rfl, HO1, HB1⟩
  · have hgv : vb ≠ g := fun h => hne (by rw [h]; rfl)
    by_cases hin : i = l.length
    · subst hin
      refine (insEnd_calls g l.length c l x w B w0 HO HB hBw hl vb hvb).mono ?_
      rintro e w' ⟨v', rfl, h1, h2⟩
      exact ⟨v', rfl, by rw [List.take_length, List.drop_length, List.append_nil]; exact h1, h2⟩
    · by_cases hroom : l.length + 1 ≤ c
      · exact insShift_calls g l.length c i l x w B w0 HO hg HB (by omega) hroom vb hvb hgv
      · exact insGrow_calls g l.length c i l x w B w0 HO HB hBw hl (by omega) (by omega) vb hvb
theorem enPut : Enters Tryd.prog 68 := enters Tryd.func68 (by kernel_rfl) rfl
theorem putFn_calls (x : Se) (ad : Addr) (id : Int) (w : World) (hc : w.cell? ad = some (.int .i64 id)) :
    Calls Tryd.prog 68 #[seV x, .pointer (some ad)] w fun e w' => e = .returned (.bool (decide (id < x.id))) ∧ Below w.heap.size w w' := by
  have hc2 := cell_below (below_new (w := w) (.cells #[.int .i64 x.id, .string x.body] 27)) hc
  unfold seV
  go_enter Tryd.func68, Tryd.ntmps68
  go_wp2
  go_ret
  exact ⟨rfl, below_new _⟩
theorem box1_cell {w w1 : World} {a : Value} {t : Nat} (hb : Below (w.alloc (.cells #[a] t)).heap.size (w.alloc (.cells #[a] t)) w1) : w1.cell? ⟨w.heap.size, 0, none⟩ = some a :=
  (cell_of_block (boxed1 hb).1).1 0
set_option maxRecDepth 100000 in
set_option maxHeartbeats 8000000 in
theorem putI_calls {F : Nat → Prop} (v : Value) (l : List Se) (id : Int) (body : ByteArray) (w : World) (h : Rp.Rd sect w F v l) (hl : l.length ≤ 1048576) (hs : ∀ x ∈ l, x.body.size ≤ 1048576) (hbs : body.size ≤ 1048576) (hT : Tabs w) :
    Calls Tryd.prog 38 #[v, .int .i64 id, .string body] w fun e w' => ∃ v', e = .returned (pairV v' (putB l id body).2) ∧ Ow true 27 sect w' (fun k => w.heap.size ≤ k) v' (putB l id body).1 ∧ Below w.heap.size w w' := by
  have HU : Hid (putB l id body = if goodB l && inB id 1 11 then resB (putP l id body) else ([], false)) := Lib.hid rfl
  have hB0 := below_new (w := w) (.cells #[.int .i64 id] 3)
  have HG := goodSections_calls v l _ (h.below hB0) hl hs (hT.below hB0)
  have hall := @goodB_all l
  generalize goodB l = z at *
  have HG := Lib.hid HG
  have hv : ∃ A c, v = .slice A l.length c := by obtain ⟨A, c, rfl, _⟩ := rd_sect h; exact ⟨A, c, rfl⟩
  obtain ⟨A, c, rfl⟩ := hv
  cases z
  · clear hall
    go_enter Tryd.func38, Tryd.ntmps38
    go_wp2_with (go_at_call 19; refine HG.out.mono ?_; rintro e w1 ⟨rfl, hb⟩)
    exact bodyPost_ret (v := pairV (.slice none 0 0) false) (by simp [results, Tryd.results38, go_sem, pairV]) rfl ⟨_, by rw [HU.out]; rfl, by rw [HU.out]; exact Ow.nil _ _ _ _ _, below_then hB0 hb⟩
  · cases hi : inB id 1 11
    · rw [hi] at HU
      have HI := Lib.hid hi
      clear hi hall
      go_enter Tryd.func38, Tryd.ntmps38
      go_wp2_with (first | (go_at_call 19; refine HG.out.mono ?_; rintro e w1 ⟨rfl, hb⟩; have e0 := box1_cell hb) | (go_at_call 46; refine (within_calls _ _ _ _).mono ?_; rintro e w' ⟨rfl, rfl⟩; rw [HI.out]))
      exact bodyPost_ret (v := pairV (.slice none 0 0) false) (by simp [results, Tryd.results38, go_sem, pairV]) rfl ⟨_, by rw [HU.out]; rfl, by rw [HU.out]; exact Ow.nil _ _ _ _ _, below_then hB0 hb⟩
    · rw [hi] at HU
      have HI := Lib.hid hi
      have hl8 := (hall rfl).1
      have HU2 : Hid (putB l id body = resB (putP l id body)) := Lib.hid (by rw [HU.out]; rfl)
      clear hi hall HU
      go_enter Tryd.func38, Tryd.ntmps38
      go_wp2_with (first | (go_at_call 19; refine HG.out.mono ?_; rintro e w1 ⟨rfl, hb⟩; have e0 := box1_cell hb) | (go_at_call 46; refine (within_calls _ _ _ _).mono ?_; rintro e w' ⟨rfl, rfl⟩; rw [HI.out]))
      clear e0 HG
      refine (clone_calls _ l w1 ((h.below hB0).below hb) hl).mono ?_
      rintro e w2 ⟨v2, rfl, HO2, hb2⟩
      have HB2 := below_then hb hb2
      have HO2' := HO2.mono (G := fun k => (w.alloc (.cells #[.int .i64 id] 3)).heap.size ≤ k) (fun k hk => Nat.le_trans hb.size hk)
      have e0 := box1_cell HB2
      clear HO2 hb hb2
      go_wp2_with fail
      refine (sectionAt_calls _ l id w2 ((h.below hB0).below HB2)).mono ?_
      rintro e w3 ⟨rfl, hb3⟩
      have HB3 := below_then HB2 hb3
      have HO3 := HO2'.below hb3
      clear e0 HB2 hb3 HO2'
      have e0 := box1_cell HB3
      have hnon : Hid (∀ (W : World) (u : Value), Ow true 27 sect W (fun k => (w.alloc (.cells #[.int .i64 id] 3)).heap.size ≤ k) u (putP l id body) → Below (w.alloc (.cells #[.int .i64 id] 3)).heap.size (w.alloc (.cells #[.int .i64 id] 3)) W →
          Calls Tryd.prog 19 #[u] W fun e w' => e = .returned (.bool (goodB (putP l id body))) ∧ Below W.heap.size W w') :=
        Lib.hid (fun W u hu hW => goodSections_calls u _ W hu.rd (by have := putP_len l id body; omega) (putP_sz hs hbs) ((hT.below hB0).below hW))
      cases hf : l.findIdx? (fun x => x.id == id) with
      | some k =>
        have hP : putP l id body = l.set k ⟨id, body⟩ := by unfold putP; rw [hf]
        have hix : ixOf (fun x => x.id == id) l = k := by unfold ixOf; rw [hf]
        rw [hix]
        rw [List.findIdx?_eq_some_iff_getElem] at hf
        obtain ⟨hk, hke, _⟩ := hf
        have hke : l[k].id = id := by simpa using hke
        rcases owCases HO3 with ⟨rfl, rfl⟩ | ⟨g, c2, rfl, hg, _⟩
        · simp at hk
        obtain ⟨⟨c0, c1⟩, f0⟩ := HO3.sect_at hk
        have f1 := f0 (k * 2 + 1)
        have HO4 := HO3.set_body hk body
        rw [hke, ← hP] at HO4
        have HB4 := HB3.setCell (p := ⟨g, k * 2 + 1, none⟩) hg (.string body)
        have hnn := hnon.out _ _ HO4 HB4
        have hnn := Lib.hid hnn
        have HF : Hid (putB l id body = if goodB (putP l id body) then (putP l id body, true) else ([], false)) := Lib.hid (by rw [HU2.out]; rfl)
        have HO4 := Lib.hid HO4
        have HB4 := Lib.hid HB4
        clear hP hix hke f0 c0 hnon HU2 HO3 HB3
        generalize putP l id body = o at *
        cases hz : goodB o
        · rw [hz] at hnn HF
          have HZ := Lib.hid hz
          clear hz
          go_wp2_with (go_at_call 19; refine hnn.out.mono ?_; rintro e w5 ⟨rfl, hb5⟩)
          exact bodyPost_ret (v := pairV (.slice none 0 0) false) (by simp [results, Tryd.results38, go_sem, pairV]) rfl ⟨_, by rw [HF.out]; rfl, by rw [HF.out]; exact Ow.nil _ _ _ _ _, below1 (below_then HB4.out hb5)⟩
        · rw [hz] at hnn HF
          have HZ := Lib.hid hz
          clear hz
          go_wp2_with (go_at_call 19; refine hnn.out.mono ?_; rintro e w5 ⟨rfl, hb5⟩)
          exact bodyPost_ret (v := pairV (.slice (some ⟨g, 0, none⟩) l.length c2) true) (by simp [results, Tryd.results38, go_sem, pairV]) rfl ⟨_, by rw [HF.out]; rfl, by rw [HF.out]; exact (HO4.out.below hb5).mono (fun k hk => Nat.le_trans (by simp) hk), below1 (below_then HB4.out hb5)⟩
      | none =>
        have hP : putP l id body = l.take (posOf (fun x => decide (id < x.id)) l) ++ [⟨id, body⟩] ++ l.drop (posOf (fun x => decide (id < x.id)) l) := by unfold putP; rw [hf]
        have hix : ixOf (fun x => x.id == id) l = -1 := by unfold ixOf; rw [hf]
        rw [hix]
        clear hf hix
        have HX := ixSect_calls _ l 68 #[.pointer (some ⟨w.heap.size, 0, none⟩)] (fun x => decide (id < x.id)) w3 ((h.below hB0).below HB3) enPut (fun x _ W hW => putFn_calls x ⟨w.heap.size, 0, none⟩ id W (cell_below hW e0))
        have HX := Lib.hid HX
        have HF : Hid (putB l id body = if goodB (putP l id body) then (putP l id body, true) else ([], false)) := Lib.hid (by rw [HU2.out]; rfl)
        go_wp2_with fail
        refine HX.out.mono ?_
        rintro e w4 ⟨rfl, hb4⟩
        have HB4 := below_then HB3 hb4
        have HO4 := HO3.below hb4
        clear e0 HB3 hb4 HO3 HX HU2
        have e0 := box1_cell HB4
        have hle := posOf_le (fun x => decide (id < x.id)) l
        have hixp : (ixOf (fun x => decide (id < x.id)) l = -1 ∧ posOf (fun x => decide (id < x.id)) l = l.length) ∨ ixOf (fun x => decide (id < x.id)) l = (posOf (fun x => decide (id < x.id)) l : Nat) := by
          unfold ixOf posOf
          cases l.findIdx? (fun x => decide (id < x.id)) with
          | none => exact .inl ⟨rfl, rfl⟩
          | some a => exact .inr rfl
        generalize posOf (fun x => decide (id < x.id)) l = a at *
        have HP := Lib.hid hP
        clear hP
        have hne : v2.ownBlock ≠ some w4.heap.size := fun he => by have := (HO4.lt_size he).2; omega
        have HINS := insAny_calls v2 a l ⟨id, body⟩ (w4.alloc (.cells #[.int .i64 id, .string body] 27)) _ _ (HO4.below (below_new _)) (HB4.alloc HB4.size _) (Nat.le_trans HB4.size (by simp)) hl hle w4.heap.size (heap_alloc_new w4 _) hne
        rw [← HP.out] at HINS
        have HINS := Lib.hid HINS
        generalize putP l id body = o at *
        obtain ⟨A2, c2, hv2, _⟩ := HO4.form
        subst hv2
        clear HO4 hne
        have fin : ∀ (ai : Int), Hid (ai = (a : Int)) → True := fun _ _ => trivial
        rcases hixp with ⟨e1, e2⟩ | e1
        · rw [e1]
          subst e2
          clear e1
          go_wp2_with fail
          refine HINS.out.mono ?_
          rintro e w5 ⟨v5, rfl, HO5, HB5⟩
          have hnn := Lib.hid (hnon.out _ _ HO5 HB5)
          cases hz : goodB o
          · rw [hz] at hnn HF
            clear hz
            go_wp2_with (go_at_call 19; refine hnn.out.mono ?_; rintro e w6 ⟨rfl, hb6⟩)
            exact bodyPost_ret (v := pairV (.slice none 0 0) false) (by simp [results, Tryd.results38, go_sem, pairV]) rfl ⟨_, by rw [HF.out]; rfl, by rw [HF.out]; exact Ow.nil _ _ _ _ _, below1 (below_then HB5 hb6)⟩
          · rw [hz] at hnn HF
            clear hz
            go_wp2_with (go_at_call 19; refine hnn.out.mono ?_; rintro e w6 ⟨rfl, hb6⟩)
            exact bodyPost_ret (v := pairV v5 true) (by simp [results, Tryd.results38, go_sem, pairV]) rfl ⟨_, by rw [HF.out]; rfl, by rw [HF.out]; exact (HO5.below hb6).mono (fun k hk => Nat.le_trans (by simp) hk), below1 (below_then HB5 hb6)⟩
        · rw [e1]
          clear e1
          have a0 : ¬ (a : Int) < 0 := by omega
          go_wp2_with fail
          refine HINS.out.mono ?_
          rintro e w5 ⟨v5, rfl, HO5, HB5⟩
          have hnn := Lib.hid (hnon.out _ _ HO5 HB5)
          cases hz : goodB o
          · rw [hz] at hnn HF
            clear hz
            go_wp2_with (go_at_call 19; refine hnn.out.mono ?_; rintro e w6 ⟨rfl, hb6⟩)
            exact bodyPost_ret (v := pairV (.slice none 0 0) false) (by simp [results, Tryd.results38, go_sem, pairV]) rfl ⟨_, by rw [HF.out]; rfl, by rw [HF.out]; exact Ow.nil _ _ _ _ _, below1 (below_then HB5 hb6)⟩
          · rw [hz] at hnn HF
            clear hz
            go_wp2_with (go_at_call 19; refine hnn.out.mono ?_; rintro e w6 ⟨rfl, hb6⟩)
            exact bodyPost_ret (v := pairV v5 true) (by simp [results, Tryd.results38, go_sem, pairV]) rfl ⟨_, by rw [HF.out]; rfl, by rw [HF.out]; exact (HO5.below hb6).mono (fun k hk => Nat.le_trans (by simp) hk), below1 (below_then HB5 hb6)⟩
end Go.Proofs.YteiekdolbnkihaaDoor.L
