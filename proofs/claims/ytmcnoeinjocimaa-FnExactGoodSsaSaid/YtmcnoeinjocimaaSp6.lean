/- The reference: what is come to without a node. -/
import Derived.Test.YtmcnoeinjocimaaSp5
set_option linter.unusedVariables false
set_option linter.unusedSimpArgs false
namespace Go.Proofs.Ytmcnoeinjocimaa.L
open Go.RowKit
structure WInv (next : List (List Int)) (gone : Int) (L : List Int) (i : Nat) : Prop where
  nd : L.Nodup
  rch : ∀ x ∈ L, Rch next (fun x => x ≠ gone) 0 x
  zero : (0 : Int) ∈ L
  cl : ∀ k ∈ L.take i, ∀ l, next[k.toNat]? = some l → ∀ x ∈ l, x ≠ gone → x ∈ L
  le : i ≤ L.length
theorem WInv.add {next : List (List Int)} {gone : Int} {L : List Int} {i : Nat} (h : WInv next gone L i) (hi : i < L.length) {l : List Int} (hl : next[L[i].toNat]? = some l) (hp : 0 ≤ L[i]) {x : Int} (hx : x ∈ l) (hg : x ≠ gone) (hn : x ∉ L) : WInv next gone (L ++ [x]) i :=
  ⟨List.nodup_append.2 ⟨h.nd, by simp, fun a ha b hb => by rw [List.mem_singleton.1 hb]; intro e; exact hn (e ▸ ha)⟩,
    fun y hy => (List.mem_append.1 hy).elim (h.rch y) (fun hy => by rw [List.mem_singleton.1 hy]; exact .step (h.rch _ (List.getElem_mem hi)) hp hl hx hg),
    List.mem_append.2 (.inl h.zero),
    fun k hk l hl y hy hyg => List.mem_append.2 (.inl (h.cl k (by rwa [List.take_append_of_le_length (by omega)] at hk) l hl y hy hyg)), by simp; omega⟩
theorem WInv.next {next : List (List Int)} {gone : Int} {L : List Int} {i : Nat} (h : WInv next gone L i) (hi : i < L.length) {l : List Int} (hl : next[L[i].toNat]? = some l) (ha : ∀ x ∈ l, x ≠ gone → x ∈ L) : WInv next gone L (i + 1) :=
  ⟨h.nd, h.rch, h.zero, fun k hk l' hl' x hx hg => by
    rw [List.take_succ_eq_append_getElem hi] at hk
    rcases List.mem_append.1 hk with hk | hk
    · exact h.cl k hk l' hl' x hx hg
    · rw [List.mem_singleton.1 hk] at hl'
      rw [hl] at hl'; cases hl'
      exact ha x hx hg, hi⟩
theorem WInv.done {next : List (List Int)} {gone : Int} {L : List Int} (h : WInv next gone L L.length) (k : Int) : k ∈ L ↔ Rch next (fun x => x ≠ gone) 0 k :=
  ⟨h.rch k, fun hk => Rch.sub (S := fun x => x ∈ L) (fun _ => h.zero) (fun k hk _ l hl x hx hg => h.cl k (by rw [List.take_length]; exact hk) l hl x hx hg) hk⟩
theorem WInv.range {next : List (List Int)} {gone : Int} {L : List Int} {i : Nat} (h : WInv next gone L i) (hr : InR next) (h0 : 0 < next.length) : L.length ≤ next.length ∧ ∀ x ∈ L, 0 ≤ x ∧ x < next.length :=
  have := fun x hx => Rch.range (h.rch x hx) (by omega) hr
  ⟨len_nodup_range h.nd this, this⟩
structure WIn (next : List (List Int)) (gone : Int) (L : List Int) (i m : Nat) (l : List Int) : Prop where
  w : WInv next gone L i
  h : i < L.length
  nx : next[L[i].toNat]? = some l
  p : 0 ≤ L[i]
  al : ∀ x ∈ l.take m, x ≠ gone → x ∈ L
theorem WIn.skip {next : List (List Int)} {gone : Int} {L : List Int} {i m : Nat} {l : List Int} (h : WIn next gone L i m l) (hm : m < l.length) (hx : l[m] = gone ∨ l[m] ∈ L) : WIn next gone L i (m + 1) l :=
  ⟨h.w, h.h, h.nx, h.p, fun x hx' hg => by
    rw [List.take_succ_eq_append_getElem hm] at hx'
    rcases List.mem_append.1 hx' with hx' | hx'
    · exact h.al x hx' hg
    · rw [List.mem_singleton.1 hx'] at hg ⊢
      exact hx.elim (fun e => absurd e hg) id⟩
theorem WIn.put {next : List (List Int)} {gone : Int} {L : List Int} {i m : Nat} {l : List Int} (h : WIn next gone L i m l) (hm : m < l.length) (hg : l[m] ≠ gone) (hn : l[m] ∉ L) : WIn next gone (L ++ [l[m]]) i (m + 1) l := by
  have e : (L ++ [l[m]])[i]'(by have := h.h; simp; omega) = L[i]'h.h := List.getElem_append_left h.h
  exact ⟨h.w.add h.h h.nx h.p (List.getElem_mem hm) hg hn, by have := h.h; simp; omega, by rw [e]; exact h.nx, by rw [e]; exact h.p, fun x hx hg' => by
    rw [List.take_succ_eq_append_getElem hm] at hx
    rcases List.mem_append.1 hx with hx | hx
    · exact List.mem_append.2 (.inl (h.al x hx hg'))
    · exact List.mem_append.2 (.inr hx)⟩
set_option maxHeartbeats 2000000 in
theorem l7Without_calls {F : Nat → Prop} (next : List (List Int)) (v : Value) (gone : Int) (w : World) (h : Rp.Rd (Rp.sl Rp.int) w F v next) (h0 : 0 < next.length) (hm : next.length ≤ 1048576) (hr : InR next) :
    Calls Try.prog 74 #[.agg #[v], .int .i64 gone] w fun e w' => ∃ v' L, e = .returned v' ∧ Ow true 3 Rp.int w' (fun k => w.heap.size ≤ k) v' L ∧ Below w.heap.size w w' ∧ Hid (L.Nodup ∧ ∀ k, k ∈ L ↔ Rch next (fun x => x ≠ gone) 0 k) := by
  replace h := h.bound
  obtain ⟨A, c, rfl, hlc, hcm, hrow⟩ := rd_ints h
  by_cases hg : gone = 0
  · have ht : (gone == 0) = true := by simpa using hg
    have HE : Hid (([] : List Int).Nodup ∧ ∀ k, k ∈ ([] : List Int) ↔ Rch next (fun x => x ≠ gone) 0 k) := Lib.hid ⟨List.nodup_nil, fun k => ⟨fun h => absurd h List.not_mem_nil, fun h => (Rch.sub (ok := fun x => x ≠ gone) (frm := 0) (S := fun _ => False) (fun h => h hg.symm) (fun _ h => h.elim) h).elim⟩⟩
    clear hg
    go_enter Try.func74, Try.ntmps74
    go_wp2
    go_ret
    exact ⟨_, _, rfl, Ow.nil _ _ _ _ _, below_new _, HE⟩
  · have ht : (gone == 0) = false := by simpa using hg
    have HI : Hid (WInv next gone [0] 0) := Lib.hid ⟨by simp, fun x hx => by rw [List.mem_singleton.1 hx]; exact .start (fun h => hg h.symm), by simp, fun k hk => by simp at hk, by simp⟩
    clear hg
    have HR := Lib.hid hr
    clear hr
    go_enter Try.func74, Try.ntmps74
    go_wp2
    have hO : Ow true 3 Rp.int ((w.alloc (Obj.cells #[Value.slice A next.length c] 57)).alloc (Obj.cells #[Value.int .i64 0] 3)) (fun q => w.heap.size + 1 ≤ q) (.slice (some ⟨w.heap.size + 1, 0, none⟩) 1 1) [0] := ow_intsG (by simp) (by omega) [0] _ rfl (by simp)
    have hB : Below (w.alloc (Obj.cells #[Value.slice A next.length c] 57)).heap.size (w.alloc (Obj.cells #[Value.slice A next.length c] 57)) ((w.alloc (Obj.cells #[Value.slice A next.length c] 57)).alloc (Obj.cells #[Value.int .i64 0] 3)) := below_new _
    go_loopw [5, 6] (fun sv i wr => ∃ (i' : Nat) (L : List Int), i = .int .i64 i' ∧ Ow true 3 Rp.int wr (fun q => w.heap.size + 1 ≤ q) sv L ∧ Below (w.alloc (Obj.cells #[Value.slice A next.length c] 57)).heap.size (w.alloc (Obj.cells #[Value.slice A next.length c] 57)) wr ∧ Hid (WInv next gone L i')) (fun _ i _ => next.length - (intOf i).toNat)
    case atStart => exact ⟨0, [0], rfl, hO, hB, HI⟩
    case round =>
      obtain ⟨i, L, rfl, HO, HB, HW⟩ := hrel
      clear HI
      rename World => wo
      have hrg := HW.out.range HR.out h0
      have hil := HW.out.le
      obtain ⟨hLn, hrg⟩ := hrg
      obtain ⟨Av, kv, rfl, hkv, hkm⟩ := HO.form
      obtain ⟨b1, z1⟩ := boxed1 HB
      obtain ⟨x1, f1⟩ := cell_of_block b1
      have x10 := x1 0
      simp at x10
      by_cases hlt : i < L.length
      · have hri := hrg L[i] (List.getElem_mem hlt)
        have hLL : L ≠ [] := by intro e; rw [e] at hlt; simp at hlt
        obtain ⟨_, _, hAe, _, _, hAr⟩ := rd_int HO.rd
        cases hAe
        rcases hAr with hAr | ⟨bs, os, rfl, hbs, hcs⟩
        · exact absurd hAr hLL
        have c1 := hcs i hlt
        clear hcs
        rcases hrow with hnil | ⟨b, o, rfl, hb, hcell⟩
        · rw [hnil] at h0; simp at h0
        obtain ⟨n, hn⟩ := Int.eq_ofNat_of_zero_le hri.1
        have hnl : n < next.length := by omega
        obtain ⟨u, cu, hu⟩ := hcell n hnl
        have cu := cell_below (below1 HB) cu
        have hu := hu.below (below1 HB)
        clear hcell
        have hnx : next[L[i].toNat]? = some next[n] := by rw [hn]; exact List.getElem?_eq_getElem hnl
        have HNX := Lib.hid hnx
        have HN0 := Lib.hid hri.1
        rw [hn] at c1
        clear hnx hrg hri
        generalize hl0 : next[n] = l0 at *
        clear hl0 hn
        obtain ⟨Au, ku, rfl, _, _, hru⟩ := rd_int hu
        have i0 : (0 : Int) ≤ (i : Int) := Int.natCast_nonneg _
        have i1 : (i : Int) < (L.length : Int) := by omega
        have i2 : (0 : Int) ≤ (n : Int) := Int.natCast_nonneg _
        have i3 : (n : Int) < (next.length : Int) := by omega
        go_wp2
        go_quiet (fail)
        go_wp2
        have HW0 : Hid (WIn next gone L i 0 l0) := Lib.hid ⟨HW.out, hlt, HNX.out, HN0.out, fun x hx => by simp at hx⟩
        have HBd := below_drewN HB nq
        have HOd := HO.move (w' := wo.drewN nq) (fun _ _ _ => rfl)
        have hud := hu.move (w := wo) (w' := wo.drewN nq) (fun _ _ _ => rfl)
        clear c1 cu hu hru HO HB HW x1 x10 f1 b1
        generalize wo.drewN nq = W1 at *
        go_loopw [5, 27] (fun sv m wr => ∃ (m' : Nat) (L' : List Int), m' ≤ l0.length ∧ m = .int .i64 m' ∧ Ow true 3 Rp.int wr (fun q => w.heap.size + 1 ≤ q) sv L' ∧ Below (w.alloc (Obj.cells #[Value.slice (some ⟨b, o, none⟩) next.length c] 57)).heap.size (w.alloc (Obj.cells #[Value.slice (some ⟨b, o, none⟩) next.length c] 57)) wr ∧ Rp.Rd Rp.int wr (fun q => F q ∧ q < w.heap.size) (.slice Au l0.length ku) l0 ∧ Hid (WIn next gone L' i m' l0)) (fun _ m _ => l0.length - (intOf m).toNat)
        case atStart => exact ⟨0, L, Nat.zero_le _, rfl, HOd, HBd, hud, HW0⟩
        case round =>
          obtain ⟨m, L', hm, rfl, HO, HB, HU, HI⟩ := hrel
          clear HW0
          obtain ⟨Av', kv', rfl, hkv', hkm'⟩ := HO.form
          by_cases hmt : m < l0.length
          · obtain ⟨_, _, hAe, _, _, hAr⟩ := rd_int HU
            cases hAe
            rcases hAr with hAr | ⟨b2, o2, rfl, hb2, hc2⟩
            · rw [hAr] at hmt; simp at hmt
            have c2 := hc2 m hmt
            clear hc2
            have HSk := Lib.hid (fun h => HI.out.skip hmt h)
            have HPt := Lib.hid (fun h h' => HI.out.put hmt h h')
            have hLn' := ((HI.out.w.range HR.out h0).1)
            have HC0 := Lib.hid (l1Has_calls _ L' l0[m] wr HO.rd)
            generalize l0[m] = x at *
            have hB1 : w.heap.size + 1 ≤ wr.heap.size := by have := HB.size; simpa using this
            by_cases hxg : x = gone
            · have ht : (x != gone) = false := by simpa using hxg
              have HS := Lib.hid (HSk.out (.inl hxg))
              clear hxg
              go_wp2
              go_roundw
              case rel => exact ⟨m + 1, L', by omega, by go_num, HO, HB, HU, HS.out⟩
              case measure => simp [intOf]; omega
            · have ht : (x != gone) = true := by simpa using hxg
              by_cases hxl : x ∈ L'
              · have ht2 : L'.contains x = true := by simpa using hxl
                have HC := HC0.out
                rw [ht2] at HC
                replace HC := Lib.hid HC
                have HS := Lib.hid (HSk.out (.inr hxl))
                clear hxg hxl
                go_wp2_with fail
                refine HC.out.mono ?_
                rintro e w2 ⟨rfl, hb⟩
                have HO2 := HO.below hb
                have HB2 := HB.trans (hb.mono HB.size)
                have HU2 := HU.below hb
                go_wp2
                go_roundw
                case rel => exact ⟨m + 1, L', by omega, by go_num, HO2, HB2, HU2, HS.out⟩
                case measure => simp [intOf]; omega
              · have ht2 : L'.contains x = false := by simpa using hxl
                have HC := HC0.out
                rw [ht2] at HC
                replace HC := Lib.hid HC
                have HS := Lib.hid (HPt.out hxg hxl)
                clear hxg hxl
                go_wp2_with fail
                refine HC.out.mono ?_
                rintro e w2 ⟨rfl, hb⟩
                have HO2 := HO.below hb
                have HB2 := HB.trans (hb.mono HB.size)
                have HU2 := HU.below hb
                go_wp2_with ((at_builtin; refine ow_append1 (r := Rp.int) (e := 3) (G := fun _ => False) (by rfl) _ _ 35 (.int .i64 0) 8 (by rfl) Try.underlying35 infoInt rfl (by decide) (by omega) (.slice Av' L'.length kv') L' x [.int .i64 x] (by rfl) (by rfl) HO2 rfl (fun _ h => h.elim) (by omega) ?_; intro v1 w1 HO3 hg1; have HB3 := below_grown HB2 hg1 (fun q hq => by have := own_in HO2 (.inr hq); simpa using this) HB2.size; have HU3 := HU2.move (fun q hq hlt => hg1.block q hlt (own_ne HO2 (fun h => by have := hq.2; omega))); obtain ⟨Bv, dv, rfl, _, _⟩ := HO3.form1))
                go_roundw
                case rel => exact ⟨m + 1, L' ++ [x], by omega, by go_num, HO3.mono (fun q hq => by have hz2 := hb.size; rcases hq with hq | hq | hq; exact hq; exact hq.elim; omega), HB3, HU3, HS.out⟩
                case measure => simp [intOf]; omega
          · obtain rfl : m = l0.length := by omega
            have HN : Hid (WInv next gone L' (i + 1)) := Lib.hid (HI.out.w.next HI.out.h HI.out.nx (by have := HI.out.al; rwa [List.take_length] at this))
            have hLn' := ((HI.out.w.range HR.out h0).1)
            have hih := HI.out.h
            go_wp2
            go_roundw
            case rel => exact ⟨i + 1, L', by go_num, HO, HB, HN.out⟩
            case measure => simp [intOf]; omega
      · obtain rfl : i = L.length := by omega
        have HD : Hid (L.Nodup ∧ ∀ k, k ∈ L ↔ Rch next (fun x => x ≠ gone) 0 k) := Lib.hid ⟨HW.out.nd, HW.out.done⟩
        clear HW
        go_wp2
        go_ret
        exact ⟨_, L, rfl, HO.mono (fun q hq => by omega), below1 HB, HD⟩
end Go.Proofs.Ytmcnoeinjocimaa.L
