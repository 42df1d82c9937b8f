/- slices.Grow and Concat of numbers. -/
import Derived.Test.YtmcnoeinjocimaaLib10
import Derived.Test.YtmcnoeinjocimaaSp3
import Derived.Shelf.Spec.SlicesInsertGrow
set_option linter.unusedVariables false
set_option linter.unusedSimpArgs false
namespace Go.Proofs.Ytmcnoeinjocimaa.L
open Go.RowKit
theorem ow_empty_cap {α : Type} {ap : Bool} {e : Nat} {r : Rp α} {w : World} {b c : Nat} {cur : Array Value} (h : w.heap[b]? = some (.cells cur e (0, 0))) (hs : cur.size = c * r.sz) (hc : c ≤ maxLen) : Ow ap e r w (fun k => k = b) (.slice (some ⟨b, 0, none⟩) 0 c) [] :=
  ⟨fun _ _ => False, [], ⟨by simp, .inr ⟨b, c, cur, rfl, Nat.zero_le _, h, Nat.zero_le _, hc, hs, by simp⟩⟩, fun k hk => by simp [Value.ownBlock] at hk; omega, fun _ _ h => h.elim, fun _ _ _ _ h => h.elim, fun i x hx => by simp at hx⟩
set_option maxRecDepth 100000 in
set_option maxHeartbeats 1000000 in
theorem grow_calls (n : Nat) (w : World) (hn : n ≤ 1000000000) :
    Calls Try.prog 125 #[.slice none 0 0, .int .i64 n] w fun e w' => ∃ v', e = .returned v' ∧ Ow true 3 Rp.int w' (fun q => w.heap.size ≤ q) v' [] ∧ Below w.heap.size w w' := by
  have i0 : (0 : Int) ≤ (n : Int) := Int.natCast_nonneg _
  by_cases h0 : n = 0
  · subst h0
    go_enter Try.func125, Try.ntmps125
    go_wp2
    go_ret
    exact ⟨_, rfl, Ow.nil _ _ _ _ _, Below.refl _ _⟩
  · have i1 : (0 : Int) < (n : Int) := by omega
    obtain ⟨ti, hi0, hzz⟩ := Option.map_eq_some_iff.1 infoInt
    simp only [Prod.mk.injEq] at hzz
    obtain ⟨hz0, hz1, hz2⟩ := hzz
    obtain ⟨G, hG⟩ : ∃ G, G = grownCap w (0 + n) 0 3 := ⟨_, rfl⟩
    obtain ⟨ROW, hROW⟩ : ∃ ROW : Array Value, ROW = ([] : List Value).toArray ++ Builtin.zeroCells (Value.int .i64 0).cells n ++ Builtin.zeroCells (Value.int .i64 0).cells (G - (0 + n)) := ⟨_, rfl⟩
    have hrz : ∀ ty, (Builtin.append_ #[35, 3] ty #[.slice none 0 0, .int .i64 (n : Int)]).run Try.prog w = .ok (.slice (some ⟨w.heap.size, 0, none⟩) (0 + n) G) (w.drew.alloc (.cells ROW 3)) := fun ty => by
      have h := Lib.run_append_grow_zeros w 35 3 ty 3 ti _ .i64 .i64 Try.underlying35 Try.underlying3 hi0 hz0 none 0 0 [] (run_firstCells_none w.drew ti.size 0 0 0) n (by omega) (by omega) (by omega) (by omega) (by rw [hz2]; omega) (by rw [hz2]; exact growslice_fits (by omega) (by omega))
      rw [hROW, hG]
      exact h
    have hGn : n ≤ G := by rw [hG]; have := grownCap_ge w (0 + n) 0 3; omega
    have hGm : G ≤ maxLen := by rw [hG]; exact grownCap_le_maxLen w (0 + n) 0 3 (by unfold maxLen; omega)
    have hRs : ROW.size = G * 1 := by
      rw [hROW]; simp [Builtin.zeroCells, Value.cells]; omega
    have hO := ow_empty_cap (ap := true) (r := Rp.int) (heap_alloc_new w.drew (.cells ROW 3)) hRs hGm
    have hO : Ow true 3 Rp.int (w.drew.alloc (.cells ROW 3)) (fun q => w.heap.size ≤ q) (.slice (some ⟨w.heap.size, 0, none⟩) 0 G) [] := hO.mono (fun q hq => by have hq : q = w.heap.size := hq; omega)
    have hB : Below w.heap.size w (w.drew.alloc (.cells ROW 3)) := (below_drew (Below.refl _ _)).alloc (Nat.le_refl _) _
    rw [Nat.zero_add] at hrz
    clear h0 hROW hG hRs
    have hO := Lib.hid hO
    have j1 : n ≤ G := hGn
    have j2 : (0 : Int) ≤ (G : Int) := Int.natCast_nonneg _
    go_enter Try.func125, Try.ntmps125
    have mixed : Try.prog.follows Departure.mixedOrders = true := by kernel_rfl
    go_wp2_with (at_builtin; refine Lib.wpList_append_run _ rfl _ _ _ _ rfl _ _ rfl rfl _ _ (hrz _) ?_)
    go_ret
    exact ⟨_, rfl, hO.out, hB⟩
theorem flat_take_le (l : List (List Int)) (k : Nat) : (l.take k).flatten.length ≤ l.flatten.length := by
  have h : l.flatten = (l.take k).flatten ++ (l.drop k).flatten := by rw [← List.flatten_append, List.take_append_drop]
  rw [h, List.length_append]; omega
set_option maxHeartbeats 2000000 in
theorem concat_calls {F : Nat → Prop} (v : Value) (l : List (List Int)) (w : World) (h : Rp.Rd (Rp.sl Rp.int) w F v l) (hl : l.length ≤ 1048576) (ht : l.flatten.length ≤ 500000000) :
    Calls Try.prog 94 #[v] w fun e w' => ∃ v', e = .returned v' ∧ Ow true 3 Rp.int w' (fun q => w.heap.size ≤ q) v' l.flatten ∧ Below w.heap.size w w' := by
  replace h := h.bound
  obtain ⟨A, c, rfl, hlc, hcm, hrow⟩ := rd_ints h
  go_enter Try.func94, Try.ntmps94
  go_wp2
  go_loop [3, 11] (fun z i => ∃ k : Nat, k ≤ l.length ∧ i = .int .i64 k ∧ z = .int .i64 ((l.take k).flatten.length : Nat)) (fun _ i => l.length - (intOf i).toNat)
  case atStart => exact ⟨0, Nat.zero_le _, rfl, rfl⟩
  case round =>
    obtain ⟨k, hk, rfl, rfl⟩ := hrel
    by_cases hlt : k < l.length
    · rcases hrow with hnil | ⟨b, o, rfl, hb, hcell⟩
      · rw [hnil] at hlt; simp at hlt
      obtain ⟨u, cu, hu⟩ := hcell k hlt
      have hft := flatten_take hlt
      have h1 := flat_take_le l k
      have h2 := flat_take_le l (k + 1)
      have h3 : (l.take (k + 1)).flatten.length = (l.take k).flatten.length + l[k].length := by rw [hft, List.length_append]
      have h4 : l[k].length ≤ 500000000 := by omega
      have h5 : (l.take k).flatten.length ≤ 500000000 := by omega
      have HS := Lib.hid h3
      clear hcell hft h1 h2 h3
      generalize (l.take k).flatten.length = z at *
      generalize l[k] = a at *
      obtain ⟨Au, ku, rfl, _⟩ := hu
      have i0 : (0 : Int) ≤ (k : Int) := Int.natCast_nonneg _
      have i1 : (k : Int) < (l.length : Int) := by omega
      have i2 : ¬ ((z : Int) + (a.length : Int) < 0) := by omega
      go_wp2
      go_round
      case rel => exact ⟨k + 1, by omega, by go_num, by rw [HS.out]; go_num⟩
      case measure => simp [intOf]; omega
    · obtain rfl : k = l.length := by omega
      rw [List.take_length]
      have HG := Lib.hid (grow_calls l.flatten.length w (by omega))
      have HK := Lib.hid (fun k => Nat.le_trans (flat_take_le l k) ht)
      clear ht
      generalize l.flatten.length = z at *
      go_wp2_with fail
      refine HG.out.mono ?_
      rintro e w1 ⟨v1, rfl, HO, HB⟩
      obtain ⟨Av, kv, rfl, _, _⟩ := HO.form
      go_wp2
      go_loopw [6, 27] (fun sv i wr => ∃ k : Nat, k ≤ l.length ∧ i = .int .i64 k ∧ Ow true 3 Rp.int wr (fun q => w.heap.size ≤ q) sv (l.take k).flatten ∧ Below w.heap.size w wr) (fun _ i _ => l.length - (intOf i).toNat)
      case atStart => exact ⟨0, Nat.zero_le _, rfl, HO, HB⟩
      case round =>
        clear HO HB
        obtain ⟨k, hk, rfl, HO, HB⟩ := hrel
        obtain ⟨Av, kv, rfl, _, _⟩ := HO.form
        by_cases hlt : k < l.length
        · rcases hrow with hnil | ⟨b, o, rfl, hb, hcell⟩
          · rw [hnil] at hlt; simp at hlt
          obtain ⟨u, cu, hu⟩ := hcell k hlt
          replace cu := cell_below HB cu
          replace hu := hu.below HB
          have hft := Lib.hid (flatten_take hlt)
          have hbd : (l.take k).flatten.length + l[k].length ≤ 1000000000 := by
            have h2 := HK.out (k + 1)
            rw [hft.out, List.length_append] at h2
            omega
          clear hcell
          generalize (l.take k).flatten = f at *
          generalize l[k] = a at *
          have ⟨Au, ku, hue, _⟩ := hu
          subst hue
          have i0 : (0 : Int) ≤ (k : Int) := Int.natCast_nonneg _
          have i1 : (k : Int) < (l.length : Int) := by omega
          go_wp2_with (at_builtin; refine app_ints (by rfl) _ _ (by rfl) _ _ f a (by rfl) (by rfl) HO hu hbd ?_; intro A2 c2 w3 HO3 hg; have HB3 := below_grown HB hg (fun q hq => own_in HO (.inr hq)) HB.size; have HO4 := HO3.mono (G := fun q => w.heap.size ≤ q) (fun q hq => by have := HB.size; rcases hq with hq | hq; exact hq; omega))
          go_roundw
          case rel => exact ⟨k + 1, by omega, by go_num, by rw [hft.out]; exact HO4, HB3⟩
          case measure => simp [intOf]; omega
        · obtain rfl : k = l.length := by omega
          rw [List.take_length] at HO ⊢
          go_wp2
          go_ret
          exact ⟨_, rfl, HO, HB⟩
end Go.Proofs.Ytmcnoeinjocimaa.L
