/- The reference's PutSection. -/
import Derived.Test.YteiekdolbnkihaaDoorPs1
import Derived.Test.YteiekdolbnkihaaDoorDc1
set_option linter.unusedVariables false
set_option linter.unusedSimpArgs false
namespace Go.Proofs.YteiekdolbnkihaaDoor.L
open Go.RowKit
theorem rd_drop2 {w : World} {F : Nat → Prop} {b o n c : Nat} {l : List Se} (h : Rp.Rd sect w F (.slice (some ⟨b, o, none⟩) n c) l) (k : Nat) (hk : k ≤ n) :
    Rp.Rd sect w F (.slice (if c = k then some ⟨b, o, none⟩ else some ⟨b, o + k * 2, none⟩) (n - k) (c - k)) (l.drop k) := by
  obtain ⟨A', c', he, hl, hm, h⟩ := h
  injection he with h1 h2 h3
  subst h1 h2 h3
  refine ⟨_, _, by rw [List.length_drop], by rw [List.length_drop]; omega, by omega, ?_⟩
  by_cases hck : c = k
  · left; rw [List.drop_eq_nil_of_le (by omega)]
  · rcases h with rfl | ⟨b', o', hh, hb, hlt, h⟩
    · left; simp
    · injection hh with hh
      injection hh with q1 q2
      subst q1 q2
      refine .inr ⟨b, o + k * 2, by rw [if_neg hck], hb, hlt, fun i x hx => ?_⟩
      rw [List.getElem?_drop] at hx
      obtain ⟨cs, hK, hc⟩ := h (k + i) x hx
      refine ⟨cs, hK, fun j u hu => ?_⟩
      have := hc j u hu
      have hsz : sect.sz = 2 := rfl
      rw [hsz] at this ⊢
      rwa [show o + k * 2 + (i * 2 + j) = o + ((k + i) * 2 + j) by omega]
theorem putK_eq {l : List Se} {id : Int} {k : Nat} (hk : k ≤ l.length) (h : ∀ (j : Nat) (hj : j < l.length), j < k → l[j].id < id) (hs : ∀ (hk : k < l.length), ¬ l[k].id < id) : putK l id = k := by
  unfold putK posOf
  by_cases hlt : k < l.length
  · have : l.findIdx? (fun x => !decide (x.id < id)) = some k := by
      rw [List.findIdx?_eq_some_iff_getElem]
      exact ⟨hlt, by simpa using hs hlt, fun j hj => by simpa using h j (by omega) hj⟩
    rw [this]
  · have : l.findIdx? (fun x => !decide (x.id < id)) = none := by
      rw [List.findIdx?_eq_none_iff]
      intro x hx
      obtain ⟨j, hj, rfl⟩ := List.getElem_of_mem hx
      simpa using h j hj (by omega)
    rw [this]
    show l.length = k
    omega
set_option maxRecDepth 100000 in
set_option maxHeartbeats 16000000 in
theorem putS_calls {F : Nat → Prop} (v : Value) (l : List Se) (id : Int) (body : ByteArray) (w : World) (h : Rp.Rd sect w F v l) (hl : l.length ≤ 1048576) (hs : ∀ x ∈ l, x.body.size ≤ 1048576) (hbs : body.size ≤ 1048576) :
    Calls Tryd.prog 37 #[v, .int .i64 id, .string body] w fun e w' => ∃ v', e = .returned (pairV v' (putB l id body).2) ∧ Ow true 27 sect w' (fun k => w.heap.size ≤ k) v' (putB l id body).1 ∧ Below w.heap.size w w' := by
  have HU : Hid (putB l id body = if (goodB l && inB id 1 11) && decide (body.size ≤ 200) then resB (putS l id body) else ([], false)) := Lib.hid (putB_spec l id body)
  have HG := goodSectionsS_calls v l w h hl hs
  rw [← good_same] at HG
  have hall := @goodB_all l
  cases hz0 : goodB l
  all_goals
    rw [hz0] at HG HU
    have HG := Lib.hid HG
  · clear hall
    have HU2 : Hid (putB l id body = ([], false)) := Lib.hid (by rw [HU.out]; rfl)
    have hv : ∃ A c, v = .slice A l.length c := by obtain ⟨A, c, rfl, _⟩ := rd_sect h; exact ⟨A, c, rfl⟩
    obtain ⟨A, c, rfl⟩ := hv
    clear hz0
    go_enter Tryd.func37, Tryd.ntmps37
    go_wp2_with (go_at_call 17; refine HG.out.mono ?_; rintro e w1 ⟨rfl, hb⟩)
    exact bodyPost_ret (v := pairV (.slice none 0 0) false) (by simp [results, Tryd.results37, go_sem, pairV]) rfl ⟨_, by rw [HU2.out], by rw [HU2.out]; exact Ow.nil _ _ _ _ _, hb⟩
  · obtain ⟨hl8, hsz⟩ := hall hz0
    clear hall
    cases hi : inB id 1 11
    · have HI := Lib.hid hi
      have HU2 : Hid (putB l id body = ([], false)) := Lib.hid (by rw [HU.out, hi]; rfl)
      have hv : ∃ A c, v = .slice A l.length c := by obtain ⟨A, c, rfl, _⟩ := rd_sect h; exact ⟨A, c, rfl⟩
      obtain ⟨A, c, rfl⟩ := hv
      clear hz0 hi
      go_enter Tryd.func37, Tryd.ntmps37
      go_wp2_with (first | (go_at_call 17; refine HG.out.mono ?_; rintro e w1 ⟨rfl, hb⟩) | (go_at_call 48; refine (l1In_calls _ _ _ _).mono ?_; rintro e w' ⟨rfl, rfl⟩; rw [HI.out]))
      exact bodyPost_ret (v := pairV (.slice none 0 0) false) (by simp [results, Tryd.results37, go_sem, pairV]) rfl ⟨_, by rw [HU2.out], by rw [HU2.out]; exact Ow.nil _ _ _ _ _, hb⟩
    · have HI := Lib.hid hi
      by_cases h200 : body.size ≤ 200
      · have HR : Hid (putB l id body = if goodB (putS l id body) then (putS l id body, true) else ([], false)) := Lib.hid (by rw [HU.out, hi, decide_eq_true h200]; rfl)
        have hid : 1 ≤ id := by unfold inB at hi; simp at hi; omega
        have hGo : ∀ x ∈ putS l id body, x.body.size ≤ 1048576 := by rw [← put_same hz0 hid]; exact putP_sz hs hbs
        have hGl : (putS l id body).length ≤ 1048576 := by rw [← put_same hz0 hid]; have := putP_len l id body; omega
        have hG : ∀ (W : World) (u : Value), Rp.Rd sect W (fun k => w.heap.size ≤ k) u (putS l id body) → Calls Tryd.prog 17 #[u] W fun e w' => e = .returned (.bool (goodB (putS l id body))) ∧ Below W.heap.size W w' := fun W u hu => by
          have := goodSectionsS_calls u _ W hu hGl hGo
          rwa [← good_same] at this
        have b200 : ¬ (200 : Int) < (body.size : Int) := by omega
        clear hz0 hi HU hGo hGl hsz
        have hR := h
        obtain ⟨A, c, rfl, hlc, hcm, hrow⟩ := rd_sect h
        clear h
        go_enter Tryd.func37, Tryd.ntmps37
        go_wp2_with (first | (go_at_call 17; refine HG.out.mono ?_; rintro e w1 ⟨rfl, hb⟩) | (go_at_call 48; refine (l1In_calls _ _ _ _).mono ?_; rintro e w' ⟨rfl, rfl⟩; rw [HI.out]))
        clear HG HI
        go_loopw [8] (fun i wr => ∃ k : Nat, k ≤ l.length ∧ i = .int .i64 k ∧ Hid (∀ (j : Nat) (hj : j < l.length), j < k → l[j].id < id) ∧ Below w.heap.size w wr) (fun i _ => l.length - (intOf i).toNat)
        case atStart => exact ⟨0, Nat.zero_le _, rfl, Lib.hid (fun j _ hj => by omega), hb⟩
        case round =>
          obtain ⟨k, hk, rfl, HN, HB⟩ := hrel
          clear hb
          by_cases hlt : k < l.length
          · rcases hrow with rfl | ⟨b, o, rfl, hb0, hcell⟩
            · simp at hlt
            have cw := (hcell k hlt).1
            have c1 := (hcell k hlt).below HB
            clear hcell
            obtain ⟨q0, q1⟩ := c1
            have k0 : (0 : Int) ≤ (k : Int) := Int.natCast_nonneg _
            have k1 : (k : Int) < (l.length : Int) := by omega
            by_cases hid : l[k].id < id
            · go_wp2
              go_roundw
              case rel => exact ⟨k + 1, by omega, by go_num, Lib.hid (fun j hj hjk => (Nat.lt_or_eq_of_le (Nat.le_of_lt_succ hjk)).elim (fun h => HN.out j hj h) (fun h => by subst h; exact hid)), HB⟩
              case measure => simp [intOf]; omega
            · have hK := putK_eq hk HN.out (fun _ => hid)
              have HT := (hR.below HB).take k hk
              by_cases heq : l[k].id = id
              · have heb : (l[k].id == id) = true := by simpa using heq
                have hput : putS l id body = l.take k ++ [⟨id, body⟩] ++ l.drop (k + 1) := by
                  unfold putS; rw [hK, List.getElem?_eq_getElem hlt]; simp only [Option.map_some, heq, if_true]
                clear hK
                by_cases hck : c = k + 1
                · subst hck
                  have HD := rd_drop2 hR (k + 1) (by omega)
                  rw [if_pos rfl, show k + 1 - (k + 1) = 0 by omega, show l.length - (k + 1) = 0 by omega] at HD
                  have hlt1 : (l.take k).length ≤ 1048576 := by first | omega | (simp; done) | (simp; omega)
                  have hlt2 : (l.drop (k + 1)).length ≤ 1048576 := by first | omega | (simp; done) | (simp; omega)
                  have HF : Hid (putS l id body = (l.take k) ++ [⟨id, body⟩] ++ (l.drop (k + 1))) := Lib.hid hput
                  have hG2 := hG
                  rw [HF.out] at hG2
                  have HG2 := Lib.hid hG2
                  clear hput hG2
                  have hBs := HB.size
                  have E2 : Hid (((l.take k) ++ [(⟨id, body⟩ : Se)]).length = k + 1) := Lib.hid (by first | (simp; done) | (simp; omega))
                  have tok1 : True := trivial
                  go_wp2_with (first | (at_builtin; have _t := tok1; refine acc_appendf (r := sect) (e := 27) (B := w.heap.size) (w0 := w) sect_flat (by rfl) _ _ 33 (.agg #[.int .i64 0, .string ByteArray.empty]) 24 (by rfl) Tryd.underlying33 infoSect rfl (by decide) (by omega) (.slice none 0 0) _ [] (l.take k) (by rfl) (by rfl) true (Ow.nil _ _ _ _ (fun k => w.heap.size ≤ k)) HT HB hBs (by simp only [List.length_nil]; omega) ?_; intro v1 w2 HO1 HB1 hB1; clear tok1) | (at_builtin; have _t := HO1; refine acc_append1 (r := sect) (e := 27) (B := w.heap.size) (w0 := w) sect_flat (by rfl) _ _ 33 (.agg #[.int .i64 0, .string ByteArray.empty]) 24 (by rfl) Tryd.underlying33 infoSect rfl (by decide) (by omega) v1 (l.take k) ⟨id, body⟩ [.int .i64 id, .string body] (by rfl) (by rfl) true HO1 (sect_mk _ _ ⟨id, body⟩) HB1 hB1 (by omega) ?_; intro v2 w3 HO2 HB2 hB2; clear HO1; have HD2 := HD.below HB2; have q2 := cell_below HB2 cw; obtain ⟨A2, c2, hv2, _⟩ := HO2.form; rw [E2.out] at hv2; subst hv2) | (at_builtin; have _t := HO2; refine acc_appendf (r := sect) (e := 27) (B := w.heap.size) (w0 := w) sect_flat (by rfl) _ _ 33 (.agg #[.int .i64 0, .string ByteArray.empty]) 24 (by rfl) Tryd.underlying33 infoSect rfl (by decide) (by omega) _ _ ((l.take k) ++ [⟨id, body⟩]) (l.drop (k + 1)) (by rfl) (by rfl) true HO2 HD2 HB2 hB2 (by simp only [List.length_append, List.length_cons, List.length_nil]; omega) ?_; intro v3 w4 HO3 HB3 hB3; clear HO2))
                  have HO3' : Ow true 27 sect w4 (fun k => w.heap.size ≤ k) v3 ((l.take k) ++ [⟨id, body⟩] ++ (l.drop (k + 1))) := HO3
                  rw [← HF.out] at HO3'
                  refine (hG _ _ HO3'.rd).mono ?_
                  rintro e w5 ⟨rfl, hb5⟩
                  have HB5 := HB3.trans (hb5.mono hB3)
                  have HO5 := HO3'.below hb5
                  obtain ⟨A3, c3, hv3, _⟩ := HO5.form
                  subst hv3
                  clear HO3 HO3' hG HG2 HB3 hb5
                  generalize putS l id body = out at *
                  cases hz : goodB out
                  · rw [hz] at HR
                    have HZ := Lib.hid hz
                    clear hz
                    go_wp2
                    exact bodyPost_ret (v := pairV (.slice none 0 0) false) (by simp [results, Tryd.results37, go_sem, pairV]) rfl ⟨_, by rw [HR.out]; rfl, by rw [HR.out]; exact Ow.nil _ _ _ _ _, HB5⟩
                  · rw [hz] at HR
                    have HZ := Lib.hid hz
                    clear hz
                    go_wp2
                    exact bodyPost_ret (v := pairV (.slice A3 out.length c3) true) (by simp [results, Tryd.results37, go_sem, pairV]) rfl ⟨_, by rw [HR.out]; rfl, by rw [HR.out]; exact HO5, HB5⟩
                · skip
                  have HD := rd_drop2 hR (k + 1) (by omega)
                  rw [if_neg hck] at HD
                  have hlt1 : (l.take k).length ≤ 1048576 := by first | omega | (simp; done) | (simp; omega)
                  have hlt2 : (l.drop (k + 1)).length ≤ 1048576 := by first | omega | (simp; done) | (simp; omega)
                  have HF : Hid (putS l id body = (l.take k) ++ [⟨id, body⟩] ++ (l.drop (k + 1))) := Lib.hid hput
                  have hG2 := hG
                  rw [HF.out] at hG2
                  have HG2 := Lib.hid hG2
                  clear hput hG2
                  have hBs := HB.size
                  have E2 : Hid (((l.take k) ++ [(⟨id, body⟩ : Se)]).length = k + 1) := Lib.hid (by first | (simp; done) | (simp; omega))
                  have tok1 : True := trivial
                  go_wp2_with (first | (at_builtin; have _t := tok1; refine acc_appendf (r := sect) (e := 27) (B := w.heap.size) (w0 := w) sect_flat (by rfl) _ _ 33 (.agg #[.int .i64 0, .string ByteArray.empty]) 24 (by rfl) Tryd.underlying33 infoSect rfl (by decide) (by omega) (.slice none 0 0) _ [] (l.take k) (by rfl) (by rfl) true (Ow.nil _ _ _ _ (fun k => w.heap.size ≤ k)) HT HB hBs (by simp only [List.length_nil]; omega) ?_; intro v1 w2 HO1 HB1 hB1; clear tok1) | (at_builtin; have _t := HO1; refine acc_append1 (r := sect) (e := 27) (B := w.heap.size) (w0 := w) sect_flat (by rfl) _ _ 33 (.agg #[.int .i64 0, .string ByteArray.empty]) 24 (by rfl) Tryd.underlying33 infoSect rfl (by decide) (by omega) v1 (l.take k) ⟨id, body⟩ [.int .i64 id, .string body] (by rfl) (by rfl) true HO1 (sect_mk _ _ ⟨id, body⟩) HB1 hB1 (by omega) ?_; intro v2 w3 HO2 HB2 hB2; clear HO1; have HD2 := HD.below HB2; have q2 := cell_below HB2 cw; obtain ⟨A2, c2, hv2, _⟩ := HO2.form; rw [E2.out] at hv2; subst hv2) | (at_builtin; have _t := HO2; refine acc_appendf (r := sect) (e := 27) (B := w.heap.size) (w0 := w) sect_flat (by rfl) _ _ 33 (.agg #[.int .i64 0, .string ByteArray.empty]) 24 (by rfl) Tryd.underlying33 infoSect rfl (by decide) (by omega) _ _ ((l.take k) ++ [⟨id, body⟩]) (l.drop (k + 1)) (by rfl) (by rfl) true HO2 HD2 HB2 hB2 (by simp only [List.length_append, List.length_cons, List.length_nil]; omega) ?_; intro v3 w4 HO3 HB3 hB3; clear HO2))
                  have HO3' : Ow true 27 sect w4 (fun k => w.heap.size ≤ k) v3 ((l.take k) ++ [⟨id, body⟩] ++ (l.drop (k + 1))) := HO3
                  rw [← HF.out] at HO3'
                  refine (hG _ _ HO3'.rd).mono ?_
                  rintro e w5 ⟨rfl, hb5⟩
                  have HB5 := HB3.trans (hb5.mono hB3)
                  have HO5 := HO3'.below hb5
                  obtain ⟨A3, c3, hv3, _⟩ := HO5.form
                  subst hv3
                  clear HO3 HO3' hG HG2 HB3 hb5
                  generalize putS l id body = out at *
                  cases hz : goodB out
                  · rw [hz] at HR
                    have HZ := Lib.hid hz
                    clear hz
                    go_wp2
                    exact bodyPost_ret (v := pairV (.slice none 0 0) false) (by simp [results, Tryd.results37, go_sem, pairV]) rfl ⟨_, by rw [HR.out]; rfl, by rw [HR.out]; exact Ow.nil _ _ _ _ _, HB5⟩
                  · rw [hz] at HR
                    have HZ := Lib.hid hz
                    clear hz
                    go_wp2
                    exact bodyPost_ret (v := pairV (.slice A3 out.length c3) true) (by simp [results, Tryd.results37, go_sem, pairV]) rfl ⟨_, by rw [HR.out]; rfl, by rw [HR.out]; exact HO5, HB5⟩
              · have heb : (l[k].id == id) = false := by simpa using heq
                have hput : putS l id body = l.take k ++ [⟨id, body⟩] ++ l.drop k := by
                  unfold putS; rw [hK, List.getElem?_eq_getElem hlt]; simp only [Option.map_some, Option.some.injEq, heq, if_false]
                have hck : ¬ c = k := by omega
                clear hK
                have HD := rd_drop2 hR k (by omega)
                rw [if_neg hck] at HD
                have hlt1 : (l.take k).length ≤ 1048576 := by first | omega | (simp; done) | (simp; omega)
                have hlt2 : (l.drop k).length ≤ 1048576 := by first | omega | (simp; done) | (simp; omega)
                have HF : Hid (putS l id body = (l.take k) ++ [⟨id, body⟩] ++ (l.drop k)) := Lib.hid hput
                have hG2 := hG
                rw [HF.out] at hG2
                have HG2 := Lib.hid hG2
                clear hput hG2
                have hBs := HB.size
                have E2 : Hid (((l.take k) ++ [(⟨id, body⟩ : Se)]).length = k + 1) := Lib.hid (by first | (simp; done) | (simp; omega))
                have tok1 : True := trivial
                go_wp2_with (first | (at_builtin; have _t := tok1; refine acc_appendf (r := sect) (e := 27) (B := w.heap.size) (w0 := w) sect_flat (by rfl) _ _ 33 (.agg #[.int .i64 0, .string ByteArray.empty]) 24 (by rfl) Tryd.underlying33 infoSect rfl (by decide) (by omega) (.slice none 0 0) _ [] (l.take k) (by rfl) (by rfl) true (Ow.nil _ _ _ _ (fun k => w.heap.size ≤ k)) HT HB hBs (by simp only [List.length_nil]; omega) ?_; intro v1 w2 HO1 HB1 hB1; clear tok1) | (at_builtin; have _t := HO1; refine acc_append1 (r := sect) (e := 27) (B := w.heap.size) (w0 := w) sect_flat (by rfl) _ _ 33 (.agg #[.int .i64 0, .string ByteArray.empty]) 24 (by rfl) Tryd.underlying33 infoSect rfl (by decide) (by omega) v1 (l.take k) ⟨id, body⟩ [.int .i64 id, .string body] (by rfl) (by rfl) true HO1 (sect_mk _ _ ⟨id, body⟩) HB1 hB1 (by omega) ?_; intro v2 w3 HO2 HB2 hB2; clear HO1; have HD2 := HD.below HB2; have q2 := cell_below HB2 cw; obtain ⟨A2, c2, hv2, _⟩ := HO2.form; rw [E2.out] at hv2; subst hv2) | (at_builtin; have _t := HO2; refine acc_appendf (r := sect) (e := 27) (B := w.heap.size) (w0 := w) sect_flat (by rfl) _ _ 33 (.agg #[.int .i64 0, .string ByteArray.empty]) 24 (by rfl) Tryd.underlying33 infoSect rfl (by decide) (by omega) _ _ ((l.take k) ++ [⟨id, body⟩]) (l.drop k) (by rfl) (by rfl) true HO2 HD2 HB2 hB2 (by simp only [List.length_append, List.length_cons, List.length_nil]; omega) ?_; intro v3 w4 HO3 HB3 hB3; clear HO2))
                have HO3' : Ow true 27 sect w4 (fun k => w.heap.size ≤ k) v3 ((l.take k) ++ [⟨id, body⟩] ++ (l.drop k)) := HO3
                rw [← HF.out] at HO3'
                refine (hG _ _ HO3'.rd).mono ?_
                rintro e w5 ⟨rfl, hb5⟩
                have HB5 := HB3.trans (hb5.mono hB3)
                have HO5 := HO3'.below hb5
                obtain ⟨A3, c3, hv3, _⟩ := HO5.form
                subst hv3
                clear HO3 HO3' hG HG2 HB3 hb5
                generalize putS l id body = out at *
                cases hz : goodB out
                · rw [hz] at HR
                  have HZ := Lib.hid hz
                  clear hz
                  go_wp2
                  exact bodyPost_ret (v := pairV (.slice none 0 0) false) (by simp [results, Tryd.results37, go_sem, pairV]) rfl ⟨_, by rw [HR.out]; rfl, by rw [HR.out]; exact Ow.nil _ _ _ _ _, HB5⟩
                · rw [hz] at HR
                  have HZ := Lib.hid hz
                  clear hz
                  go_wp2
                  exact bodyPost_ret (v := pairV (.slice A3 out.length c3) true) (by simp [results, Tryd.results37, go_sem, pairV]) rfl ⟨_, by rw [HR.out]; rfl, by rw [HR.out]; exact HO5, HB5⟩
          · have hkl : k = l.length := by omega
            have hK := putK_eq hk HN.out (fun h => absurd h hlt)
            subst hkl
            have hput : putS l id body = l ++ [⟨id, body⟩] ++ [] := by
              unfold putS; rw [hK, List.getElem?_eq_none (by omega)]; simp
            have HT := hR.below HB
            have k1 : ¬ (l.length : Int) < (l.length : Int) := by omega
            have hRd : ∀ (W : World) (A' : Option Addr) (c' : Nat), c' ≤ 9223372036854775807 → Rp.Rd sect W F (.slice A' 0 c') ([] : List Se) := fun W A' c' hc' => ⟨A', c', rfl, Nat.zero_le _, hc', .inl rfl⟩
            clear hK hrow
            have hlz : l.length - l.length = 0 := Nat.sub_self _
            cases A with
            | none =>
              by_cases hck : c = l.length
              · subst hck
                skip
                skip
                have hlt1 : l.length ≤ 1048576 := by first | omega | (simp; done) | (simp; omega)
                have hlt2 : ([] : List Se).length ≤ 1048576 := by first | omega | (simp; done) | (simp; omega)
                have HF : Hid (putS l id body = l ++ [⟨id, body⟩] ++ ([] : List Se)) := Lib.hid hput
                have hG2 := hG
                rw [HF.out] at hG2
                have HG2 := Lib.hid hG2
                clear hput hG2
                have hBs := HB.size
                have E2 : Hid ((l ++ [(⟨id, body⟩ : Se)]).length = l.length + 1) := Lib.hid (by first | (simp; done) | (simp; omega))
                have tok1 : True := trivial
                go_wp2_with (first | (at_builtin; have _t := tok1; refine acc_appendf (r := sect) (e := 27) (B := w.heap.size) (w0 := w) sect_flat (by rfl) _ _ 33 (.agg #[.int .i64 0, .string ByteArray.empty]) 24 (by rfl) Tryd.underlying33 infoSect rfl (by decide) (by omega) (.slice none 0 0) _ [] l (by rfl) (by rfl) true (Ow.nil _ _ _ _ (fun k => w.heap.size ≤ k)) HT HB hBs (by simp only [List.length_nil]; omega) ?_; intro v1 w2 HO1 HB1 hB1; clear tok1) | (at_builtin; have _t := HO1; refine acc_append1 (r := sect) (e := 27) (B := w.heap.size) (w0 := w) sect_flat (by rfl) _ _ 33 (.agg #[.int .i64 0, .string ByteArray.empty]) 24 (by rfl) Tryd.underlying33 infoSect rfl (by decide) (by omega) v1 l ⟨id, body⟩ [.int .i64 id, .string body] (by rfl) (by rfl) true HO1 (sect_mk _ _ ⟨id, body⟩) HB1 hB1 (by omega) ?_; intro v2 w3 HO2 HB2 hB2; clear HO1; skip; obtain ⟨A2, c2, hv2, _⟩ := HO2.form; rw [E2.out] at hv2; subst hv2) | (at_builtin; have _t := HO2; refine acc_appendf (r := sect) (e := 27) (B := w.heap.size) (w0 := w) sect_flat (by rfl) _ _ 33 (.agg #[.int .i64 0, .string ByteArray.empty]) 24 (by rfl) Tryd.underlying33 infoSect rfl (by decide) (by omega) _ _ (l ++ [⟨id, body⟩]) ([] : List Se) (by rfl) (by rfl) true HO2 (hRd _ _ _ (by omega)) HB2 hB2 (by simp only [List.length_append, List.length_cons, List.length_nil]; omega) ?_; intro v3 w4 HO3 HB3 hB3; clear HO2))
                have HO3' : Ow true 27 sect w4 (fun k => w.heap.size ≤ k) v3 (l ++ [⟨id, body⟩] ++ ([] : List Se)) := HO3
                rw [← HF.out] at HO3'
                refine (hG _ _ HO3'.rd).mono ?_
                rintro e w5 ⟨rfl, hb5⟩
                have HB5 := HB3.trans (hb5.mono hB3)
                have HO5 := HO3'.below hb5
                obtain ⟨A3, c3, hv3, _⟩ := HO5.form
                subst hv3
                clear HO3 HO3' hG HG2 HB3 hb5
                generalize putS l id body = out at *
                cases hz : goodB out
                · rw [hz] at HR
                  have HZ := Lib.hid hz
                  clear hz
                  go_wp2
                  exact bodyPost_ret (v := pairV (.slice none 0 0) false) (by simp [results, Tryd.results37, go_sem, pairV]) rfl ⟨_, by rw [HR.out]; rfl, by rw [HR.out]; exact Ow.nil _ _ _ _ _, HB5⟩
                · rw [hz] at HR
                  have HZ := Lib.hid hz
                  clear hz
                  go_wp2
                  exact bodyPost_ret (v := pairV (.slice A3 out.length c3) true) (by simp [results, Tryd.results37, go_sem, pairV]) rfl ⟨_, by rw [HR.out]; rfl, by rw [HR.out]; exact HO5, HB5⟩
              · skip
                skip
                have hlt1 : l.length ≤ 1048576 := by first | omega | (simp; done) | (simp; omega)
                have hlt2 : ([] : List Se).length ≤ 1048576 := by first | omega | (simp; done) | (simp; omega)
                have HF : Hid (putS l id body = l ++ [⟨id, body⟩] ++ ([] : List Se)) := Lib.hid hput
                have hG2 := hG
                rw [HF.out] at hG2
                have HG2 := Lib.hid hG2
                clear hput hG2
                have hBs := HB.size
                have E2 : Hid ((l ++ [(⟨id, body⟩ : Se)]).length = l.length + 1) := Lib.hid (by first | (simp; done) | (simp; omega))
                have tok1 : True := trivial
                go_wp2_with (first | (at_builtin; have _t := tok1; refine acc_appendf (r := sect) (e := 27) (B := w.heap.size) (w0 := w) sect_flat (by rfl) _ _ 33 (.agg #[.int .i64 0, .string ByteArray.empty]) 24 (by rfl) Tryd.underlying33 infoSect rfl (by decide) (by omega) (.slice none 0 0) _ [] l (by rfl) (by rfl) true (Ow.nil _ _ _ _ (fun k => w.heap.size ≤ k)) HT HB hBs (by simp only [List.length_nil]; omega) ?_; intro v1 w2 HO1 HB1 hB1; clear tok1) | (at_builtin; have _t := HO1; refine acc_append1 (r := sect) (e := 27) (B := w.heap.size) (w0 := w) sect_flat (by rfl) _ _ 33 (.agg #[.int .i64 0, .string ByteArray.empty]) 24 (by rfl) Tryd.underlying33 infoSect rfl (by decide) (by omega) v1 l ⟨id, body⟩ [.int .i64 id, .string body] (by rfl) (by rfl) true HO1 (sect_mk _ _ ⟨id, body⟩) HB1 hB1 (by omega) ?_; intro v2 w3 HO2 HB2 hB2; clear HO1; skip; obtain ⟨A2, c2, hv2, _⟩ := HO2.form; rw [E2.out] at hv2; subst hv2) | (at_builtin; have _t := HO2; refine acc_appendf (r := sect) (e := 27) (B := w.heap.size) (w0 := w) sect_flat (by rfl) _ _ 33 (.agg #[.int .i64 0, .string ByteArray.empty]) 24 (by rfl) Tryd.underlying33 infoSect rfl (by decide) (by omega) _ _ (l ++ [⟨id, body⟩]) ([] : List Se) (by rfl) (by rfl) true HO2 (hRd _ _ _ (by omega)) HB2 hB2 (by simp only [List.length_append, List.length_cons, List.length_nil]; omega) ?_; intro v3 w4 HO3 HB3 hB3; clear HO2))
                have HO3' : Ow true 27 sect w4 (fun k => w.heap.size ≤ k) v3 (l ++ [⟨id, body⟩] ++ ([] : List Se)) := HO3
                rw [← HF.out] at HO3'
                refine (hG _ _ HO3'.rd).mono ?_
                rintro e w5 ⟨rfl, hb5⟩
                have HB5 := HB3.trans (hb5.mono hB3)
                have HO5 := HO3'.below hb5
                obtain ⟨A3, c3, hv3, _⟩ := HO5.form
                subst hv3
                clear HO3 HO3' hG HG2 HB3 hb5
                generalize putS l id body = out at *
                cases hz : goodB out
                · rw [hz] at HR
                  have HZ := Lib.hid hz
                  clear hz
                  go_wp2
                  exact bodyPost_ret (v := pairV (.slice none 0 0) false) (by simp [results, Tryd.results37, go_sem, pairV]) rfl ⟨_, by rw [HR.out]; rfl, by rw [HR.out]; exact Ow.nil _ _ _ _ _, HB5⟩
                · rw [hz] at HR
                  have HZ := Lib.hid hz
                  clear hz
                  go_wp2
                  exact bodyPost_ret (v := pairV (.slice A3 out.length c3) true) (by simp [results, Tryd.results37, go_sem, pairV]) rfl ⟨_, by rw [HR.out]; rfl, by rw [HR.out]; exact HO5, HB5⟩
            | some ad =>
              obtain ⟨b, o, m⟩ := ad
              by_cases hck : c = l.length
              · subst hck
                skip
                skip
                have hlt1 : l.length ≤ 1048576 := by first | omega | (simp; done) | (simp; omega)
                have hlt2 : ([] : List Se).length ≤ 1048576 := by first | omega | (simp; done) | (simp; omega)
                have HF : Hid (putS l id body = l ++ [⟨id, body⟩] ++ ([] : List Se)) := Lib.hid hput
                have hG2 := hG
                rw [HF.out] at hG2
                have HG2 := Lib.hid hG2
                clear hput hG2
                have hBs := HB.size
                have E2 : Hid ((l ++ [(⟨id, body⟩ : Se)]).length = l.length + 1) := Lib.hid (by first | (simp; done) | (simp; omega))
                have tok1 : True := trivial
                go_wp2_with (first | (at_builtin; have _t := tok1; refine acc_appendf (r := sect) (e := 27) (B := w.heap.size) (w0 := w) sect_flat (by rfl) _ _ 33 (.agg #[.int .i64 0, .string ByteArray.empty]) 24 (by rfl) Tryd.underlying33 infoSect rfl (by decide) (by omega) (.slice none 0 0) _ [] l (by rfl) (by rfl) true (Ow.nil _ _ _ _ (fun k => w.heap.size ≤ k)) HT HB hBs (by simp only [List.length_nil]; omega) ?_; intro v1 w2 HO1 HB1 hB1; clear tok1) | (at_builtin; have _t := HO1; refine acc_append1 (r := sect) (e := 27) (B := w.heap.size) (w0 := w) sect_flat (by rfl) _ _ 33 (.agg #[.int .i64 0, .string ByteArray.empty]) 24 (by rfl) Tryd.underlying33 infoSect rfl (by decide) (by omega) v1 l ⟨id, body⟩ [.int .i64 id, .string body] (by rfl) (by rfl) true HO1 (sect_mk _ _ ⟨id, body⟩) HB1 hB1 (by omega) ?_; intro v2 w3 HO2 HB2 hB2; clear HO1; skip; obtain ⟨A2, c2, hv2, _⟩ := HO2.form; rw [E2.out] at hv2; subst hv2) | (at_builtin; have _t := HO2; refine acc_appendf (r := sect) (e := 27) (B := w.heap.size) (w0 := w) sect_flat (by rfl) _ _ 33 (.agg #[.int .i64 0, .string ByteArray.empty]) 24 (by rfl) Tryd.underlying33 infoSect rfl (by decide) (by omega) _ _ (l ++ [⟨id, body⟩]) ([] : List Se) (by rfl) (by rfl) true HO2 (hRd _ _ _ (by omega)) HB2 hB2 (by simp only [List.length_append, List.length_cons, List.length_nil]; omega) ?_; intro v3 w4 HO3 HB3 hB3; clear HO2))
                have HO3' : Ow true 27 sect w4 (fun k => w.heap.size ≤ k) v3 (l ++ [⟨id, body⟩] ++ ([] : List Se)) := HO3
                rw [← HF.out] at HO3'
                refine (hG _ _ HO3'.rd).mono ?_
                rintro e w5 ⟨rfl, hb5⟩
                have HB5 := HB3.trans (hb5.mono hB3)
                have HO5 := HO3'.below hb5
                obtain ⟨A3, c3, hv3, _⟩ := HO5.form
                subst hv3
                clear HO3 HO3' hG HG2 HB3 hb5
                generalize putS l id body = out at *
                cases hz : goodB out
                · rw [hz] at HR
                  have HZ := Lib.hid hz
                  clear hz
                  go_wp2
                  exact bodyPost_ret (v := pairV (.slice none 0 0) false) (by simp [results, Tryd.results37, go_sem, pairV]) rfl ⟨_, by rw [HR.out]; rfl, by rw [HR.out]; exact Ow.nil _ _ _ _ _, HB5⟩
                · rw [hz] at HR
                  have HZ := Lib.hid hz
                  clear hz
                  go_wp2
                  exact bodyPost_ret (v := pairV (.slice A3 out.length c3) true) (by simp [results, Tryd.results37, go_sem, pairV]) rfl ⟨_, by rw [HR.out]; rfl, by rw [HR.out]; exact HO5, HB5⟩
              · skip
                skip
                have hlt1 : l.length ≤ 1048576 := by first | omega | (simp; done) | (simp; omega)
                have hlt2 : ([] : List Se).length ≤ 1048576 := by first | omega | (simp; done) | (simp; omega)
                have HF : Hid (putS l id body = l ++ [⟨id, body⟩] ++ ([] : List Se)) := Lib.hid hput
                have hG2 := hG
                rw [HF.out] at hG2
                have HG2 := Lib.hid hG2
                clear hput hG2
                have hBs := HB.size
                have E2 : Hid ((l ++ [(⟨id, body⟩ : Se)]).length = l.length + 1) := Lib.hid (by first | (simp; done) | (simp; omega))
                have tok1 : True := trivial
                go_wp2_with (first | (at_builtin; have _t := tok1; refine acc_appendf (r := sect) (e := 27) (B := w.heap.size) (w0 := w) sect_flat (by rfl) _ _ 33 (.agg #[.int .i64 0, .string ByteArray.empty]) 24 (by rfl) Tryd.underlying33 infoSect rfl (by decide) (by omega) (.slice none 0 0) _ [] l (by rfl) (by rfl) true (Ow.nil _ _ _ _ (fun k => w.heap.size ≤ k)) HT HB hBs (by simp only [List.length_nil]; omega) ?_; intro v1 w2 HO1 HB1 hB1; clear tok1) | (at_builtin; have _t := HO1; refine acc_append1 (r := sect) (e := 27) (B := w.heap.size) (w0 := w) sect_flat (by rfl) _ _ 33 (.agg #[.int .i64 0, .string ByteArray.empty]) 24 (by rfl) Tryd.underlying33 infoSect rfl (by decide) (by omega) v1 l ⟨id, body⟩ [.int .i64 id, .string body] (by rfl) (by rfl) true HO1 (sect_mk _ _ ⟨id, body⟩) HB1 hB1 (by omega) ?_; intro v2 w3 HO2 HB2 hB2; clear HO1; skip; obtain ⟨A2, c2, hv2, _⟩ := HO2.form; rw [E2.out] at hv2; subst hv2) | (at_builtin; have _t := HO2; refine acc_appendf (r := sect) (e := 27) (B := w.heap.size) (w0 := w) sect_flat (by rfl) _ _ 33 (.agg #[.int .i64 0, .string ByteArray.empty]) 24 (by rfl) Tryd.underlying33 infoSect rfl (by decide) (by omega) _ _ (l ++ [⟨id, body⟩]) ([] : List Se) (by rfl) (by rfl) true HO2 (hRd _ _ _ (by omega)) HB2 hB2 (by simp only [List.length_append, List.length_cons, List.length_nil]; omega) ?_; intro v3 w4 HO3 HB3 hB3; clear HO2))
                have HO3' : Ow true 27 sect w4 (fun k => w.heap.size ≤ k) v3 (l ++ [⟨id, body⟩] ++ ([] : List Se)) := HO3
                rw [← HF.out] at HO3'
                refine (hG _ _ HO3'.rd).mono ?_
                rintro e w5 ⟨rfl, hb5⟩
                have HB5 := HB3.trans (hb5.mono hB3)
                have HO5 := HO3'.below hb5
                obtain ⟨A3, c3, hv3, _⟩ := HO5.form
                subst hv3
                clear HO3 HO3' hG HG2 HB3 hb5
                generalize putS l id body = out at *
                cases hz : goodB out
                · rw [hz] at HR
                  have HZ := Lib.hid hz
                  clear hz
                  go_wp2
                  exact bodyPost_ret (v := pairV (.slice none 0 0) false) (by simp [results, Tryd.results37, go_sem, pairV]) rfl ⟨_, by rw [HR.out]; rfl, by rw [HR.out]; exact Ow.nil _ _ _ _ _, HB5⟩
                · rw [hz] at HR
                  have HZ := Lib.hid hz
                  clear hz
                  go_wp2
                  exact bodyPost_ret (v := pairV (.slice A3 out.length c3) true) (by simp [results, Tryd.results37, go_sem, pairV]) rfl ⟨_, by rw [HR.out]; rfl, by rw [HR.out]; exact HO5, HB5⟩
      · have b200 : (200 : Int) < (body.size : Int) := by omega
        have HU2 : Hid (putB l id body = ([], false)) := Lib.hid (by rw [HU.out, decide_eq_false h200, Bool.and_false]; rfl)
        have hv : ∃ A c, v = .slice A l.length c := by obtain ⟨A, c, rfl, _⟩ := rd_sect h; exact ⟨A, c, rfl⟩
        obtain ⟨A, c, rfl⟩ := hv
        clear hz0 hi
        go_enter Tryd.func37, Tryd.ntmps37
        go_wp2_with (first | (go_at_call 17; refine HG.out.mono ?_; rintro e w1 ⟨rfl, hb⟩) | (go_at_call 48; refine (l1In_calls _ _ _ _).mono ?_; rintro e w' ⟨rfl, rfl⟩; rw [HI.out]))
        exact bodyPost_ret (v := pairV (.slice none 0 0) false) (by simp [results, Tryd.results37, go_sem, pairV]) rfl ⟨_, by rw [HU2.out], by rw [HU2.out]; exact Ow.nil _ _ _ _ _, hb⟩
end Go.Proofs.YteiekdolbnkihaaDoor.L
