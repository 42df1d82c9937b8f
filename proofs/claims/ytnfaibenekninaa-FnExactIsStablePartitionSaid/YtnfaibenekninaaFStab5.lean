/- Joined texts, each of which was built by itself: St1 Ef1 Mp1 Mp2 Ha1. -/
import Derived.Test.YtnfaibenekninaaFStab4
import Derived.Test.YtnfaibenekninaaFStab3
import Derived.Test.YtnfaibenekninaaFStab1
import Derived.Test.YtnfaibenekninaaB3
import Derived.Test.YtnfaibenekninaaProg
import Derived.Test.YtnfaibenekninaaFStab2
import Derived.Test.YtnfaibenekninaaB1
import Derived.Maps.OwnSet
import Derived.DeepKeys4
import Derived.Maps.Keyed
set_option linter.unusedVariables false
set_option linter.unusedSimpArgs false
namespace Go.Proofs.Ytnfaibenekninaa.L
open Go.RowKit
theorem likeB_iff {s : Sa} {D : List Df} {G : List Int} {a b : Nat} : likeB s D G a b = true ↔ likeR s D G a b := decide_eq_true_iff
theorem grO_get {G : List Int} {k : Nat} (hk : k < G.length) : grO G k = G[k] := by
  unfold grO
  rw [List.getD_eq_getElem?_getD, List.getElem?_eq_getElem hk]
  rfl
/-- What is asked of a pair of values. -/
def pairP (s : Sa) (D : List Df) (g : List Int) (v m : Nat) : Prop := grO g v = grO g m → rootD D v ≠ rootD D m → likeR s D g (rootD D v) (rootD D m)
/-- Whether it is a partition that stays, of as many values as there are. -/
def StabG (s : Sa) (g : List Int) : Prop := GoodP s ∧ (g.length : Int) = s.values
set_option maxRecDepth 100000 in
set_option maxHeartbeats 8000000 in
theorem stableS_calls {F F' : Nat → Prop} (s : Sa) (gl : List Int) (vparts vg : Value) (w : World) (hs : Rp.Rd part w F vparts s.parts) (hgl : Rp.Rd Rp.int w F' vg gl) (hx1 : s.parts.length ≤ 1048576) (hx2 : ∀ p ∈ s.parts, PtLim p) (hgll : gl.length ≤ 1048576) :
    Calls Try.prog 18 #[saV s vparts, vg] w (BoolRes (StabG s gl) (TellP (stabS s (dfAll s) gl)) w) := by
  obtain ⟨A, c, rfl, hlc, hcm, hrow⟩ := rd_part hs
  have hglk := Lib.hid (fun W (hW : Below w.heap.size w W) => hgl.below hW)
  obtain ⟨Ag, cg, rfl, _, _, hrg⟩ := rd_int hgl
  have HG := Lib.hid (fun W (hW : Below w.heap.size w W) => goodS_calls s _ W (hs.below hW) hx1 hx2)
  have HD := Lib.hid (fun W (hW : Below w.heap.size w W) (h : GoodP s) hN => l11Defs_calls s gl.length _ W (hs.below hW) h hx2 hN)
  have HLk := Lib.hid (fun (h : GoodP s) (hN : (gl.length : Int) = s.values) rank (X : DCtx s gl.length (dfAll s) rank) vD vG a b W F1 F2 (hW : Below w.heap.size w W) (hD : Rp.Rd dfK W F1 vD (dfAll s)) (hG : Rp.Rd Rp.int W F2 vG gl) (ha : a < gl.length) (hb : b < gl.length) => l11Like_calls s gl.length (dfAll s) rank X _ vD vG gl a b W (hs.below hW) hD hG rfl ha hb)
  unfold saV at HG HD HLk ⊢
  have hB0 : Below w.heap.size w (w.alloc (.cells #[.slice A s.parts.length c, .int .i64 s.values] 31)) := below_new _
  have b0 := heap_alloc_new w (.cells #[.slice A s.parts.length c, .int .i64 s.values] 31)
  have hDX := Lib.hid (fun (h : GoodP s) (hN : (gl.length : Int) = s.values) => dctx h hN)
  have hP := Lib.hid (show stabS s (dfAll s) gl ↔ ∀ v, v < s.values.toNat → stepS1 s (dfAll s) gl v from Iff.rfl)
  obtain ⟨P, hPe⟩ : ∃ P, P = stabS s (dfAll s) gl := ⟨_, rfl⟩
  rw [← hPe] at hP ⊢
  clear hPe
  obtain ⟨D, hD⟩ : ∃ D, D = dfAll s := ⟨_, rfl⟩
  rw [← hD] at HD HLk hDX hP
  clear hD hs hx1 hx2
  go_enter Try.func18, Try.ntmps18
  go_wp2_with fail
  refine (HG.out _ hB0).mono ?_
  rintro e w1 ⟨g, rfl, hg, hb1⟩
  have hB1 := below_then hB0 hb1
  have b1 := blk_below b0 hb1
  clear hb1 b0 hB0 HG
  cases g
  · have HN : Hid (false = true ↔ StabG s gl) := Lib.hid ⟨fun h => Bool.noConfusion h, fun h => hg.out.2 h.1⟩
    have HT : Hid (TellP P false false) := Lib.hid ⟨fun h => Bool.noConfusion h, fun h => Bool.noConfusion h.1⟩
    clear hg
    go_wp2
    refine bodyPost_ret (v := .tuple #[.bool false, .bool false]) (by simp [results, Try.results18, go_sem]) rfl ?_
    exact .mk false false HN HT rfl hB1
  have hgp := Lib.hid (hg.out.1 rfl)
  have hv1 := hgp.out.v1
  have hv2 := hgp.out.v2
  obtain ⟨v0, _⟩ := cell_of_block b1
  have x0 : w1.cell? ⟨w.heap.size, 0, none⟩ = some (.slice A s.parts.length c) := (v0 0).trans rfl
  have x1 : w1.cell? ⟨w.heap.size, 1, none⟩ = some (.int .i64 s.values) := (v0 1).trans rfl
  clear v0 hg
  by_cases hNV : (gl.length : Int) = s.values
  · obtain ⟨rank, X⟩ := hDX.out hgp.out hNV
    have hNt : s.values.toNat = gl.length := by omega
    rw [hNt] at hP
    have HN : Hid (true = true ↔ StabG s gl) := Lib.hid ⟨fun _ => ⟨hgp.out, hNV⟩, fun _ => rfl⟩
    have HR := Lib.hid (fun vD v W F1 (h : Rp.Rd dfK W F1 vD D) hv => l11Root_calls D gl.length rank X.rk X.ln X.n2 vD v W h hv)
    have hrt := Lib.hid (fun v (hv : v < gl.length) => (rootD_lt X.rk hv).1)
    have HLk := Lib.hid (fun vD vG a b W F1 F2 (hW : Below w.heap.size w W) (hD : Rp.Rd dfK W F1 vD D) (hG : Rp.Rd Rp.int W F2 vG gl) (ha : a < gl.length) (hb : b < gl.length) => HLk.out hgp.out hNV rank X vD vG a b W F1 F2 hW hD hG ha hb)
    have HD := Lib.hid (fun W (hW : Below w.heap.size w W) => HD.out W hW hgp.out hNV)
    have hN0 : 0 < gl.length := by omega
    clear X hDX hNt
    go_wp2_with fail
    replace hNV := Lib.hid hNV
    refine (HD.out _ hB1).mono ?_
    rintro e w2 ⟨vD, rfl, hvD, hb2⟩
    have hB2 := below_then hB1 hb2
    have b2 := blk_below b1 hb2
    obtain ⟨AD, cD, rfl, _, _, _⟩ := id hvD
    rcases hrg with hn | ⟨bg, og, rfl, hbg, hcg⟩
    · rw [hn] at hN0; simp at hN0
    have hcg2 : Hid (∀ k (hk : k < gl.length), w2.cell? ⟨bg, og + k, none⟩ = some (.int .i64 (grO gl k))) := Lib.hid (fun k hk => by rw [grO_get hk]; exact cell_below hB2 (hcg k hk))
    clear hcg x0 x1 hb2 b1 HD hB1
    go_wp2_with fail
    go_loopw [25] (fun i wr => ∃ k : Nat, k ≤ gl.length ∧ i = .int .i64 k ∧ Below w2.heap.size w2 wr ∧ Hid (∀ v, v < k → stepS1 s D gl v)) (fun i _ => gl.length - (intOf i).toNat)
    case atStart => exact ⟨0, Nat.zero_le _, rfl, Below.refl _ _, Lib.hid (fun v hv => by omega)⟩
    case round =>
      obtain ⟨k, hk, rfl, HB, HI⟩ := hrel
      rename World => wo
      by_cases hkt : k < gl.length
      · have k0 : (0 : Int) ≤ (k : Int) := Int.natCast_nonneg _
        have k1 : (k : Int) < (gl.length : Int) := by omega
        have ck := cell_below HB (hcg2.out k hkt)
        have hr := hrt.out k hkt
        have cr := cell_below HB (hcg2.out (rootD D k) hr)
        have HRk := Lib.hid (fun vD' W F1 (h : Rp.Rd dfK W F1 vD' D) => HR.out vD' k W F1 h hkt)
        have hDo := hvD.below HB
        have hDod := hDo.below (below_drew (Below.refl _ _))
        have hstep := Lib.hid (fun (h1 : grO gl k = grO gl (rootD D k)) (h2 : ∀ m, m < k → pairP s D gl k m) => (show stepS1 s D gl k from ⟨h1, fun m hm => h2 m hm⟩))
        have hno := Lib.hid (fun (h1 : ¬ grO gl k = grO gl (rootD D k)) (h : ∀ v, v < gl.length → stepS1 s D gl v) => h1 (h k hkt).1)
        have hpr := Lib.hid (fun m (hm : m < k) (h1 : ¬ pairP s D gl k m) (h : ∀ v, v < gl.length → stepS1 s D gl v) => h1 ((h k hkt).2 m hm))
        obtain ⟨r, hre⟩ : ∃ r, r = rootD D k := ⟨_, rfl⟩
        rw [← hre] at hr cr HRk hstep hno
        have hrE := Lib.hid hre
        have r0 : (0 : Int) ≤ (r : Int) := Int.natCast_nonneg _
        have r1 : (r : Int) < (gl.length : Int) := by omega
        clear hre
        by_cases hne : grO gl k = grO gl r
        · rw [← hne] at cr
          have hst := Lib.hid (hstep.out hne)
          clear hstep hno hne
          obtain ⟨gk, hgk⟩ : ∃ gk, gk = grO gl k := ⟨_, rfl⟩
          rw [← hgk] at ck cr
          have hgK := Lib.hid hgk
          clear hgk
          have HRq := Lib.hid (fun n => (HRk.out _ (wo.drewN n) _ (hDo.below (below_drewN (Below.refl wo.heap.size wo) n))).mono (fun _ _ h => (⟨h.1, h.2.symm⟩ : _ ∧ _ = wo.drewN n)))
          go_wp2_with fail
          go_quiet (first | (go_at_call 57; exact Calls.quiet_of_same (HRq.out _)))
          go_wp2_with fail
          go_loopw [8] (fun i wr => ∃ m : Nat, m ≤ k ∧ i = .int .i64 m ∧ Below w2.heap.size w2 wr ∧ Hid (∀ q, q < m → pairP s D gl k q)) (fun i _ => k - (intOf i).toNat)
          case atStart => exact ⟨0, Nat.zero_le _, rfl, by first | exact HB | exact below_drewN HB _ | exact below_drew HB, Lib.hid (fun q hq => by omega)⟩
          case round =>
            clear ck cr HRq hDo hDod HB
            obtain ⟨m, hm, rfl, HB, HI2⟩ := hrel
            rename World => wx
            by_cases hmt : m < k
            · have hmN : m < gl.length := by omega
              have m0 : (0 : Int) ≤ (m : Int) := Int.natCast_nonneg _
              have m1 : (m : Int) < (gl.length : Int) := by omega
              have mk : (m : Int) < (k : Int) := by omega
              have ck := cell_below HB (hcg2.out k hkt)
              have cm := cell_below HB (hcg2.out m hmN)
              rw [← hgK.out] at ck
              have hDx := hvD.below HB
              have HR1 := Lib.hid (HRk.out _ wx _ hDx)
              have HR2 := Lib.hid (HR.out _ m wx _ hDx hmN)
              have hq0 := hrt.out m hmN
              have hpm := Lib.hid (hpr.out m hmt)
              have hI3 : Hid (pairP s D gl k m → ∀ q, q < m + 1 → pairP s D gl k q) := Lib.hid (fun h q hq => by
                rcases Nat.lt_or_eq_of_le (Nat.le_of_lt_succ hq) with h2 | rfl
                · exact HI2.out q h2
                · exact h)
              have hPm : Hid (pairP s D gl k m ↔ (grO gl k = grO gl m → rootD D k ≠ rootD D m → likeR s D gl (rootD D k) (rootD D m))) := Lib.hid Iff.rfl
              have hHk := Lib.hid (fun W (hW : Below w2.heap.size w2 W) => HLk.out (.slice AD D.length cD) (.slice (some ⟨bg, og, none⟩) gl.length cg) r (rootD D m) W _ _ (below_then hB2 hW) (hvD.below hW) (hglk.out W (below_then hB2 hW)) hr hq0)
              rw [← hrE.out, ← hgK.out] at hPm
              obtain ⟨q, hqe⟩ : ∃ q, q = rootD D m := ⟨_, rfl⟩
              rw [← hqe] at HR2 hPm hHk
              clear hqe hq0 hpr
              go_wp2_with fail
              refine HR1.out.mono ?_
              rintro e w3 ⟨rfl, rfl⟩
              go_wp2_with fail
              refine HR2.out.mono ?_
              rintro e w4 ⟨rfl, rfl⟩
              by_cases hgm : gk = grO gl m
              · rw [← hgm] at cm hPm
                clear hgm
                by_cases hrq : r = q
                · have hpp : Hid (∀ q, q < m + 1 → pairP s D gl k q) := Lib.hid (hI3.out (hPm.out.2 (fun _ h => absurd hrq h)))
                  subst hrq
                  clear hPm hHk HR1 HR2 hI3 HI2
                  go_wp2_with fail
                  go_quiet (fail)
                  go_wp2
                  go_roundw
                  case rel => exact ⟨m + 1, by omega, by go_num, by first | exact HB | exact below_drewN HB _ | exact below_drew HB, hpp⟩
                  case measure => simp [intOf]; omega
                · have hnq : ((r : Int) == (q : Int)) = false := by rw [beq_eq_false_iff_ne]; intro h; exact hrq (by omega)
                  have hnq2 : ((r : Int) != (q : Int)) = true := by rw [bne_iff_ne]; intro h; exact hrq (by omega)
                  have hLk := Lib.hid (hHk.out wx.drew (below_drew HB))
                  have hpT : Hid (likeB s D gl r q = true → ∀ q, q < m + 1 → pairP s D gl k q) := Lib.hid (fun h => hI3.out (hPm.out.2 (fun _ _ => likeB_iff.1 h)))
                  have hpF : Hid (likeB s D gl r q = false → ¬ P) := Lib.hid (fun h hP2 => hpm.out (fun h3 => by
                    have := likeB_iff.2 (hPm.out.1 h3 rfl hrq)
                    rw [h] at this
                    cases this) (hP.out.1 hP2))
                  obtain ⟨R, hR⟩ : ∃ R, R = likeB s D gl r q := ⟨_, rfl⟩
                  rw [← hR] at hLk hpT hpF
                  have b3 := blk_below b2 HB
                  obtain ⟨x1, _⟩ := cell_of_block b3
                  have x10 : wx.cell? ⟨w.heap.size, 0, none⟩ = some (.slice A s.parts.length c) := (x1 0).trans rfl
                  have x11 : wx.cell? ⟨w.heap.size, 1, none⟩ = some (.int .i64 s.values) := (x1 1).trans rfl
                  clear x1 hR hrq hPm hHk HR1 HR2 hI3 HI2 hpm b3
                  go_wp2_with fail
                  refine wp_region_held_drew (S := (fun w' => w'.cell? ⟨bg, og + k, none⟩ = some (.int .i64 gk) ∧ w'.cell? ⟨bg, og + m, none⟩ = some (.int .i64 gk) ∧ w'.cell? ⟨w.heap.size, 0, none⟩ = some (.slice A s.parts.length c) ∧ w'.cell? ⟨w.heap.size, 1, none⟩ = some (.int .i64 s.values))) (by kernel_rfl) ⟨ck, cm, x10, x11⟩ (fun hH0 => ?_)
                  refine wpAnyH_take (i := 0) (v := ?_) rfl (by kernel_rfl) (by kernel_rfl) (by kernel_rfl) (fun _ _ _ h => h) (Or.inl ⟨by rfl, ?_⟩) (by assumption) ?_
                  rotate_left 1
                  focus ((intro w hSw; (try dsimp only at hSw); go_simp); try with_reducible rfl)
                  try simp only [Act.put, Array.getInternal_eq_getElem, List.getElem_toArray, List.getElem_cons_zero, List.getElem_cons_succ, List.setIfInBounds_toArray, List.set_cons_zero, List.set_cons_succ]
                  refine wpAnyH_take (i := 1) (v := ?_) rfl (by kernel_rfl) (by kernel_rfl) (by kernel_rfl) (fun _ _ _ h => h) (Or.inl ⟨by rfl, ?_⟩) (by assumption) ?_
                  rotate_left 1
                  focus ((intro w hSw; (try dsimp only at hSw); go_simp); try with_reducible rfl)
                  try simp only [Act.put, Array.getInternal_eq_getElem, List.getElem_toArray, List.getElem_cons_zero, List.getElem_cons_succ, List.setIfInBounds_toArray, List.set_cons_zero, List.set_cons_succ]
                  refine wpAnyH_take (i := 2) (v := ?_) rfl (by kernel_rfl) (by kernel_rfl) (by kernel_rfl) (fun _ _ _ h => h) (Or.inl ⟨by rfl, ?_⟩) (by assumption) ?_
                  rotate_left 1
                  focus ((intro w hSw; (try dsimp only at hSw); go_simp); try with_reducible rfl)
                  try simp only [Act.put, Array.getInternal_eq_getElem, List.getElem_toArray, List.getElem_cons_zero, List.getElem_cons_succ, List.setIfInBounds_toArray, List.set_cons_zero, List.set_cons_succ]
                  refine wpAnyH_take (i := 3) (v := ?_) rfl (by kernel_rfl) (by kernel_rfl) (by kernel_rfl) (fun _ _ _ h => h) (Or.inl ⟨by rfl, ?_⟩) (by assumption) ?_
                  rotate_left 1
                  focus ((intro w hSw; (try dsimp only at hSw); go_simp); try with_reducible rfl)
                  try simp only [Act.put, Array.getInternal_eq_getElem, List.getElem_toArray, List.getElem_cons_zero, List.getElem_cons_succ, List.setIfInBounds_toArray, List.set_cons_zero, List.set_cons_succ]
                  refine wpAnyH_take (i := 4) (v := ?_) rfl (by kernel_rfl) (by kernel_rfl) (by kernel_rfl) (fun _ _ _ h => h) (Or.inl ⟨by rfl, ?_⟩) (by assumption) ?_
                  rotate_left 1
                  focus ((intro w hSw; (try dsimp only at hSw); go_simp); try with_reducible rfl)
                  try simp only [Act.put, Array.getInternal_eq_getElem, List.getElem_toArray, List.getElem_cons_zero, List.getElem_cons_succ, List.setIfInBounds_toArray, List.set_cons_zero, List.set_cons_succ]
                  refine wpAnyH_take (i := 5) (v := ?_) rfl (by kernel_rfl) (by kernel_rfl) (by kernel_rfl) (fun _ _ _ h => h) (Or.inl ⟨by rfl, ?_⟩) (by assumption) ?_
                  rotate_left 1
                  focus ((intro w hSw; (try dsimp only at hSw); go_simp); try with_reducible rfl)
                  try simp only [Act.put, Array.getInternal_eq_getElem, List.getElem_toArray, List.getElem_cons_zero, List.getElem_cons_succ, List.setIfInBounds_toArray, List.set_cons_zero, List.set_cons_succ]
                  refine wpAnyH_take (i := 6) (v := ?_) rfl (by kernel_rfl) (by kernel_rfl) (by kernel_rfl) (fun _ _ _ h => h) (Or.inl ⟨by rfl, ?_⟩) (by assumption) ?_
                  rotate_left 1
                  focus ((intro w hSw; (try dsimp only at hSw); go_simp); try with_reducible rfl)
                  try simp only [Act.put, Array.getInternal_eq_getElem, List.getElem_toArray, List.getElem_cons_zero, List.getElem_cons_succ, List.setIfInBounds_toArray, List.set_cons_zero, List.set_cons_succ]
                  refine wpAnyH_take (i := 7) (v := ?_) rfl (by kernel_rfl) (by kernel_rfl) (by kernel_rfl) (fun _ _ _ h => h) (Or.inl ⟨by rfl, ?_⟩) (by assumption) ?_
                  rotate_left 1
                  focus ((intro w hSw; (try dsimp only at hSw); go_simp); try with_reducible rfl)
                  try simp only [Act.put, Array.getInternal_eq_getElem, List.getElem_toArray, List.getElem_cons_zero, List.getElem_cons_succ, List.setIfInBounds_toArray, List.set_cons_zero, List.set_cons_succ]
                  refine wpAnyH_take (i := 8) (v := ?_) rfl (by kernel_rfl) (by kernel_rfl) (by kernel_rfl) (fun _ _ _ h => h) (Or.inl ⟨by rfl, ?_⟩) (by assumption) ?_
                  rotate_left 1
                  focus ((intro w hSw; (try dsimp only at hSw); go_simp); try with_reducible rfl)
                  try simp only [Act.put, Array.getInternal_eq_getElem, List.getElem_toArray, List.getElem_cons_zero, List.getElem_cons_succ, List.setIfInBounds_toArray, List.set_cons_zero, List.set_cons_succ]
                  refine wpAnyH_take (i := 9) (v := ?_) rfl (by kernel_rfl) (by kernel_rfl) (by kernel_rfl) (fun _ _ _ h => h) (Or.inl ⟨by rfl, ?_⟩) (by assumption) ?_
                  rotate_left 1
                  focus ((intro w hSw; (try dsimp only at hSw); go_simp); try with_reducible rfl)
                  try simp only [Act.put, Array.getInternal_eq_getElem, List.getElem_toArray, List.getElem_cons_zero, List.getElem_cons_succ, List.setIfInBounds_toArray, List.set_cons_zero, List.set_cons_succ]
                  refine wpAnyH_take (i := 10) (v := ?_) rfl (by kernel_rfl) (by kernel_rfl) (by kernel_rfl) (fun _ _ _ h => h) (Or.inl ⟨by rfl, ?_⟩) (by assumption) ?_
                  rotate_left 1
                  focus ((intro w hSw; (try dsimp only at hSw); go_simp); try with_reducible rfl)
                  try simp only [Act.put, Array.getInternal_eq_getElem, List.getElem_toArray, List.getElem_cons_zero, List.getElem_cons_succ, List.setIfInBounds_toArray, List.set_cons_zero, List.set_cons_succ]
                  refine wpAnyH_take (i := 11) (v := ?_) rfl (by kernel_rfl) (by kernel_rfl) (by kernel_rfl) (fun _ _ _ h => h) (Or.inl ⟨by rfl, ?_⟩) (by assumption) ?_
                  rotate_left 1
                  focus ((intro w hSw; (try dsimp only at hSw); go_simp); try with_reducible rfl)
                  try simp only [Act.put, Array.getInternal_eq_getElem, List.getElem_toArray, List.getElem_cons_zero, List.getElem_cons_succ, List.setIfInBounds_toArray, List.set_cons_zero, List.set_cons_succ]
                  refine wpAnyH_take (i := 12) (v := ?_) rfl (by kernel_rfl) (by kernel_rfl) (by kernel_rfl) (fun _ _ _ h => h) (Or.inl ⟨by rfl, ?_⟩) (by assumption) ?_
                  rotate_left 1
                  focus ((intro w hSw; (try dsimp only at hSw); go_simp); try with_reducible rfl)
                  try simp only [Act.put, Array.getInternal_eq_getElem, List.getElem_toArray, List.getElem_cons_zero, List.getElem_cons_succ, List.setIfInBounds_toArray, List.set_cons_zero, List.set_cons_succ]
                  refine wpAnyH_take (i := 13) (v := ?_) rfl (by kernel_rfl) (by kernel_rfl) (by kernel_rfl) (fun _ _ _ h => h) (Or.inl ⟨by rfl, ?_⟩) (by assumption) ?_
                  rotate_left 1
                  focus ((intro w hSw; (try dsimp only at hSw); go_simp); try with_reducible rfl)
                  try simp only [Act.put, Array.getInternal_eq_getElem, List.getElem_toArray, List.getElem_cons_zero, List.getElem_cons_succ, List.setIfInBounds_toArray, List.set_cons_zero, List.set_cons_succ]
                  refine wpAnyH_take (i := 14) (v := ?_) rfl (by kernel_rfl) (by kernel_rfl) (by kernel_rfl) (fun _ _ _ h => h) (Or.inl ⟨by rfl, ?_⟩) (by assumption) ?_
                  rotate_left 1
                  focus ((intro w hSw; (try dsimp only at hSw); go_simp); try with_reducible rfl)
                  try simp only [Act.put, Array.getInternal_eq_getElem, List.getElem_toArray, List.getElem_cons_zero, List.getElem_cons_succ, List.setIfInBounds_toArray, List.set_cons_zero, List.set_cons_succ]
                  refine wpAnyH_take (i := 15) (v := ?_) rfl (by kernel_rfl) (by kernel_rfl) (by kernel_rfl) (fun _ _ _ h => h) (Or.inl ⟨by rfl, ?_⟩) (by assumption) ?_
                  rotate_left 1
                  focus ((intro w hSw; (try dsimp only at hSw); go_simp); try with_reducible rfl)
                  try simp only [Act.put, Array.getInternal_eq_getElem, List.getElem_toArray, List.getElem_cons_zero, List.getElem_cons_succ, List.setIfInBounds_toArray, List.set_cons_zero, List.set_cons_succ]
                  refine wpAnyH_take (i := 16) (v := ?_) rfl (by kernel_rfl) (by kernel_rfl) (by kernel_rfl) (fun _ _ _ h => h) (Or.inl ⟨by rfl, ?_⟩) (by assumption) ?_
                  rotate_left 1
                  focus ((intro w hSw; (try dsimp only at hSw); go_simp); try with_reducible rfl)
                  try simp only [Act.put, Array.getInternal_eq_getElem, List.getElem_toArray, List.getElem_cons_zero, List.getElem_cons_succ, List.setIfInBounds_toArray, List.set_cons_zero, List.set_cons_succ]
                  refine wpAnyH_take (i := 17) (v := ?_) rfl (by kernel_rfl) (by kernel_rfl) (by kernel_rfl) (fun _ _ _ h => h) (Or.inl ⟨by rfl, ?_⟩) (by assumption) ?_
                  rotate_left 1
                  focus ((intro w hSw; (try dsimp only at hSw); go_simp); try with_reducible rfl)
                  try simp only [Act.put, Array.getInternal_eq_getElem, List.getElem_toArray, List.getElem_cons_zero, List.getElem_cons_succ, List.setIfInBounds_toArray, List.set_cons_zero, List.set_cons_succ]
                  refine wpAnyH_take (i := 18) (v := ?_) rfl (by kernel_rfl) (by kernel_rfl) (by kernel_rfl) (fun _ _ _ h => h) (Or.inl ⟨by rfl, ?_⟩) (by assumption) ?_
                  rotate_left 1
                  focus ((intro w hSw; (try dsimp only at hSw); go_simp); try with_reducible rfl)
                  try simp only [Act.put, Array.getInternal_eq_getElem, List.getElem_toArray, List.getElem_cons_zero, List.getElem_cons_succ, List.setIfInBounds_toArray, List.set_cons_zero, List.set_cons_succ]
                  refine wpAnyH_take (i := 19) (v := ?_) rfl (by kernel_rfl) (by kernel_rfl) (by kernel_rfl) (fun _ _ _ h => h) (Or.inl ⟨by rfl, ?_⟩) (by assumption) ?_
                  rotate_left 1
                  focus ((intro w hSw; (try dsimp only at hSw); go_simp); try with_reducible rfl)
                  try simp only [Act.put, Array.getInternal_eq_getElem, List.getElem_toArray, List.getElem_cons_zero, List.getElem_cons_succ, List.setIfInBounds_toArray, List.set_cons_zero, List.set_cons_succ]
                  refine wpAnyH_ready (rs := [20]) (by kernel_rfl) (by simp) ?_
                  refine AllReadyH.cons rfl (fun K1 hK1 => ?_) AllReadyH.nil
                  try simp only [Array.getInternal_eq_getElem, List.getElem_toArray, List.getElem_cons_zero, List.getElem_cons_succ]
                  rw [if_pos (by first | kernel_rfl | rfl | decide)]
                  go_simp
                  go_at_call 58
                  refine hLk.out.mono ?_
                  rintro e w8 ⟨rfl, hb8⟩
                  have hb9 := below_then (below_drew (Below.refl wx.heap.size wx)) hb8
                  have ck := cell_below hb9 ck
                  have cm := cell_below hb9 cm
                  have x10 := cell_below hb9 x10
                  have x11 := cell_below hb9 x11
                  have HB8 := below_then HB hb9
                  go_wp2_with fail
                  refine hK1.out _ _ ⟨ck, cm, x10, x11⟩ (fun _ => ?_)
                  clear hK1 K1
                  try simp only [Act.put, List.setIfInBounds_toArray, List.set_cons_zero, List.set_cons_succ]
                  refine wpAnyH_take (i := 21) (v := ?_) rfl (by kernel_rfl) (by kernel_rfl) (by kernel_rfl) (fun _ _ _ h => h) (Or.inl ⟨by rfl, ?_⟩) (by assumption) ?_
                  rotate_left 1
                  focus ((intro w hSw; (try dsimp only at hSw); go_simp); try with_reducible rfl)
                  try simp only [Act.put, Array.getInternal_eq_getElem, List.getElem_toArray, List.getElem_cons_zero, List.getElem_cons_succ, List.setIfInBounds_toArray, List.set_cons_zero, List.set_cons_succ]
                  refine wpAnyH_take (i := 22) (v := ?_) rfl (by kernel_rfl) (by kernel_rfl) (by kernel_rfl) (fun _ _ _ h => h) (Or.inl ⟨by rfl, ?_⟩) (by assumption) ?_
                  rotate_left 1
                  focus ((intro w hSw; (try dsimp only at hSw); go_simp); try with_reducible rfl)
                  try simp only [Act.put, Array.getInternal_eq_getElem, List.getElem_toArray, List.getElem_cons_zero, List.getElem_cons_succ, List.setIfInBounds_toArray, List.set_cons_zero, List.set_cons_succ]
                  refine wpAnyH_done (by kernel_rfl) ?_ _
                  clear hH0 ck cm x10 x11 hb8 hb9 hLk HB
                  cases R
                  · have HT : Hid (TellP P true false) := Lib.hid ⟨fun h => Bool.noConfusion h, fun h => absurd h.2 (hpF.out rfl)⟩
                    have HBr := below_then hB2 HB8
                    clear hpT hpF
                    go_wp2
                    refine bodyPost_ret (v := .tuple #[.bool false, .bool true]) (by simp [results, Try.results18, go_sem]) rfl ?_
                    exact .mk true false (Lib.hid ⟨fun _ => HN.out.1 trivial, fun _ => rfl⟩) HT rfl HBr
                  · have hpp := Lib.hid (hpT.out rfl)
                    clear hpT hpF
                    go_wp2
                    go_roundw
                    case rel => exact ⟨m + 1, by omega, by go_num, HB8, hpp⟩
                    case measure => simp [intOf]; omega
              · have hpp : Hid (∀ q, q < m + 1 → pairP s D gl k q) := Lib.hid (hI3.out (hPm.out.2 (fun h _ => absurd h hgm)))
                obtain ⟨gm, hgme⟩ : ∃ gm, gm = grO gl m := ⟨_, rfl⟩
                rw [← hgme] at cm hgm
                have hne2 : (gk == gm) = false := by rw [beq_eq_false_iff_ne]; exact hgm
                clear hgme hPm hHk HR1 HR2 hI3 HI2
                go_wp2_with fail
                go_quiet (fail)
                go_wp2
                go_roundw
                case rel => exact ⟨m + 1, by omega, by go_num, by first | exact HB | exact below_drewN HB _ | exact below_drew HB, hpp⟩
                case measure => simp [intOf]; omega
            · obtain rfl : m = k := by omega
              have hI9 : Hid (∀ v, v < m + 1 → stepS1 s D gl v) := Lib.hid (fun v hv => by
                rcases Nat.lt_or_eq_of_le (Nat.le_of_lt_succ hv) with h2 | rfl
                · exact HI.out v h2
                · exact hst.out HI2.out)
              clear hst HI HI2 hpr HRk
              go_wp2
              go_roundw
              case rel => exact ⟨m + 1, by omega, by go_num, HB, hI9⟩
              case measure => simp [intOf]; omega
        · have hnP : Hid (¬ P) := Lib.hid (fun h => hno.out hne (hP.out.1 h))
          have HT : Hid (TellP P true false) := Lib.hid ⟨fun h => Bool.noConfusion h, fun h => absurd h.2 hnP.out⟩
          obtain ⟨gr, hgr⟩ : ∃ gr, gr = grO gl r := ⟨_, rfl⟩
          obtain ⟨gk, hgk⟩ : ∃ gk, gk = grO gl k := ⟨_, rfl⟩
          rw [← hgr, ← hgk] at hne
          rw [← hgr] at cr
          rw [← hgk] at ck
          have hne2 : (gk == gr) = false := by rw [beq_eq_false_iff_ne]; exact hne
          have HBr := below_then hB2 HB
          have HRq := Lib.hid (fun n => (HRk.out _ (wo.drewN n) _ (hDo.below (below_drewN (Below.refl wo.heap.size wo) n))).mono (fun _ _ h => (⟨h.1, h.2.symm⟩ : _ ∧ _ = wo.drewN n)))
          clear hstep hno hpr hgr hgk
          go_wp2_with fail
          go_quiet (first | (go_at_call 57; exact Calls.quiet_of_same (HRq.out _)))
          go_wp2
          refine bodyPost_ret (v := .tuple #[.bool false, .bool true]) (by simp [results, Try.results18, go_sem]) rfl ?_
          exact .mk true false (Lib.hid ⟨fun _ => HN.out.1 trivial, fun _ => rfl⟩) HT rfl (by first | exact HBr | exact below_drewN HBr _ | exact below_drew HBr)
      · obtain rfl : k = gl.length := by omega
        have HT : Hid (TellP P true true) := Lib.hid ⟨fun _ => ⟨rfl, hP.out.2 HI.out⟩, fun _ => rfl⟩
        have HBr := below_then hB2 HB
        go_wp2
        refine bodyPost_ret (v := .tuple #[.bool true, .bool true]) (by simp [results, Try.results18, go_sem]) rfl ?_
        exact .mk true true (Lib.hid ⟨fun _ => HN.out.1 trivial, fun _ => rfl⟩) HT rfl HBr
  · have HN : Hid (false = true ↔ StabG s gl) := Lib.hid ⟨fun h => Bool.noConfusion h, fun h => absurd h.2 hNV⟩
    have HT : Hid (TellP P false false) := Lib.hid ⟨fun h => Bool.noConfusion h, fun h => Bool.noConfusion h.1⟩
    clear hDX HD HLk
    go_wp2
    refine bodyPost_ret (v := .tuple #[.bool false, .bool false]) (by simp [results, Try.results18, go_sem]) rfl ?_
    exact .mk false false HN HT rfl hB1
end Go.Proofs.Ytnfaibenekninaa.L

set_option linter.unusedVariables false
set_option linter.unusedSimpArgs false
namespace Go.Proofs.Ytnfaibenekninaa.L
open Go.RowKit
/-- Lists that are alike element by element. -/
def eqF (p : Int → Int → Bool) (l1 l2 : List Int) : Prop := l1.length = l2.length ∧ ∀ (j : Nat) (h1 : j < l1.length) (h2 : j < l2.length), p l1[j] l2[j] = true
theorem eqF_map {f : Int → Int} {l1 l2 : List Int} : eqF (fun x y => f x == f y) l1 l2 ↔ l1.map f = l2.map f := by
  constructor
  · intro ⟨h1, h2⟩
    refine List.ext_getElem (by simpa using h1) (fun i hi hj => ?_)
    have := h2 i (by simpa using hi) (by simpa using hj)
    simpa using this
  · intro h
    have hl : l1.length = l2.length := by simpa using congrArg List.length h
    refine ⟨hl, fun j h1 h2 => ?_⟩
    have : (l1.map f)[j]'(by simpa using h1) = (l2.map f)[j]'(by simpa using h2) := by simp only [h]
    simpa using this
set_option maxRecDepth 100000 in
set_option maxHeartbeats 4000000 in
theorem eqFun_calls {F1 F2 : Nat → Prop} (v1 v2 : Value) (l1 l2 : List Int) (fn : Nat) (caps : Array Value) (p : Int → Int → Bool) (w : World) (h1 : Rp.Rd Rp.int w F1 v1 l1) (h2 : Rp.Rd Rp.int w F2 v2 l2) (hen : Enters Try.prog fn)
    (hf : ∀ x ∈ l1, ∀ y ∈ l2, ∀ W, Below w.heap.size w W → Calls Try.prog fn (#[Value.int .i64 x, Value.int .i64 y] ++ caps) W fun e w' => e = .returned (.bool (p x y)) ∧ Below W.heap.size W w') :
    Calls Try.prog 61 #[v1, v2, .func (.func fn) #[] caps] w fun e w' => ∃ r : Bool, e = .returned (.bool r) ∧ Hid (r = true ↔ eqF p l1 l2) ∧ Below w.heap.size w w' := by
  obtain ⟨A1, c1, rfl, _, _, hr1⟩ := rd_int h1
  obtain ⟨A2, c2, rfl, _, _, hr2⟩ := rd_int h2
  have hff := Lib.hid hf
  unfold Enters at hen
  clear hf
  by_cases hl : l1.length = l2.length
  · have hl1 : l1.length ≤ l2.length := by omega
    have hl2 : l2.length ≤ l1.length := by omega
    have hq : (l1.length : Int) = (l2.length : Int) := by omega
    have hq2 : ((l1.length : Int) != (l2.length : Int)) = false := by rw [hq]; simp
    go_enter Try.func61, Try.ntmps61
    go_wp2_with fail
    replace hl := Lib.hid hl
    replace hq := Lib.hid hq
    clear hq2
    go_loopw [17] (fun i wr => ∃ k : Nat, k ≤ l1.length ∧ i = .int .i64 k ∧ Hid (∀ (j : Nat) (hj1 : j < l1.length) (hj2 : j < l2.length), j < k → p l1[j] l2[j] = true) ∧ Below w.heap.size w wr) (fun i _ => l1.length - (intOf i).toNat)
    case atStart => exact ⟨0, Nat.zero_le _, rfl, Lib.hid (fun j _ _ hj => by omega), Below.refl _ _⟩
    case round =>
      obtain ⟨k, hk, rfl, HN, HB⟩ := hrel
      by_cases hlt : k < l1.length
      · have hlt2 : k < l2.length := by omega
        rcases hr1 with rfl | ⟨b1, o1, rfl, _, hc1⟩
        · simp at hlt
        rcases hr2 with rfl | ⟨b2, o2, rfl, _, hc2⟩
        · simp at hlt2
        have e1 := cell_below HB (hc1 k hlt)
        have e2 := cell_below HB (hc2 k hlt2)
        clear hc1 hc2
        have k0 : (0 : Int) ≤ (k : Int) := Int.natCast_nonneg _
        have k1 : (k : Int) < (l1.length : Int) := by omega
        have k2 : (k : Int) < (l2.length : Int) := by omega
        have HC := hff.out l1[k] (List.getElem_mem hlt) l2[k] (List.getElem_mem hlt2) wr HB
        have HR := Lib.hid (show p l1[k] l2[k] = p l1[k] l2[k] from rfl)
        have HY : Hid (p l1[k] l2[k] = true → ∀ (j : Nat) (hj1 : j < l1.length) (hj2 : j < l2.length), j < k + 1 → p l1[j] l2[j] = true) := Lib.hid (fun h j hj1 hj2 hjk => (Nat.lt_or_eq_of_le (Nat.le_of_lt_succ hjk)).elim (fun h3 => HN.out j hj1 hj2 h3) (fun h3 => by subst h3; exact h))
        have HZ : Hid (p l1[k] l2[k] = false → ¬ eqF p l1 l2) := Lib.hid (fun h h3 => by
          have := h3.2 k hlt hlt2
          rw [h] at this
          cases this)
        obtain ⟨r, hr⟩ : ∃ r, r = p l1[k] l2[k] := ⟨_, rfl⟩
        rw [← hr] at HC HY HZ
        obtain ⟨x, hx⟩ : ∃ x, x = l1[k] := ⟨_, rfl⟩
        obtain ⟨y, hy⟩ : ∃ y, y = l2[k] := ⟨_, rfl⟩
        rw [← hx] at HC e1
        rw [← hy] at HC e2
        clear hr hx hy HR
        have HC := Lib.hid HC
        go_wp2_with fail
        refine HC.out.mono ?_
        rintro e w1 ⟨rfl, hb1⟩
        have HB1 := below_then HB hb1
        clear HC hb1 e1 e2
        cases r
        · have hno := Lib.hid (HZ.out rfl)
          clear HY HZ
          go_wp2
          go_ret
          exact ⟨false, rfl, Lib.hid ⟨fun h => Bool.noConfusion h, fun h => absurd h hno.out⟩, HB1⟩
        · have hye := Lib.hid (HY.out rfl)
          clear HY HZ
          go_wp2
          go_roundw
          case rel => exact ⟨k + 1, by omega, by go_num, hye, HB1⟩
          case measure => simp [intOf]; omega
      · obtain rfl : k = l1.length := by omega
        go_wp2
        go_ret
        exact ⟨true, rfl, Lib.hid ⟨fun _ => ⟨hl.out, fun j h1 h2 => HN.out j h1 h2 h1⟩, fun _ => rfl⟩, HB⟩
  · have hq : ¬ (l1.length : Int) = (l2.length : Int) := by omega
    have hq2 : ((l1.length : Int) != (l2.length : Int)) = true := by rw [bne_iff_ne]; exact hq
    have hno : Hid (¬ eqF p l1 l2) := Lib.hid (fun h => hl h.1)
    clear hl
    go_enter Try.func61, Try.ntmps61
    go_wp2
    go_ret
    exact ⟨false, rfl, Lib.hid ⟨fun h => Bool.noConfusion h, fun h => absurd h hno.out⟩, Below.refl _ _⟩
theorem entersStab1 : Enters Try.prog 60 := enters Try.func60 (by kernel_rfl) (by kernel_rfl)
set_option maxRecDepth 100000 in
set_option maxHeartbeats 2000000 in
theorem stab1_calls (x y : Int) (gl : List Int) (gb bg og cg : Nat) (w : World) (hc : w.cell? ⟨gb, 0, none⟩ = some (.slice (some ⟨bg, og, none⟩) gl.length cg)) (hcg : ∀ k, k < gl.length → w.cell? ⟨bg, og + k, none⟩ = some (.int .i64 (grO gl k))) (hx : 0 ≤ x ∧ x < (gl.length : Int)) (hy : 0 ≤ y ∧ y < (gl.length : Int)) :
    Calls Try.prog 60 #[.int .i64 x, .int .i64 y, .pointer (some ⟨gb, 0, none⟩)] w fun e w' => e = .returned (.bool (grO gl x.toNat == grO gl y.toNat)) ∧ Below w.heap.size w w' := by
  obtain ⟨x, rfl⟩ := Int.eq_ofNat_of_zero_le hx.1
  obtain ⟨y, rfl⟩ := Int.eq_ofNat_of_zero_le hy.1
  have x0 := hx.1
  have x1 := hx.2
  have y0 := hy.1
  have y1 := hy.2
  have ex := hcg x (by omega)
  have ey := hcg y (by omega)
  rw [Int.toNat_natCast, Int.toNat_natCast]
  obtain ⟨gx, hgx⟩ : ∃ gx, gx = grO gl x := ⟨_, rfl⟩
  obtain ⟨gy, hgy⟩ : ∃ gy, gy = grO gl y := ⟨_, rfl⟩
  rw [← hgx] at ex ⊢
  rw [← hgy] at ey ⊢
  clear hgx hgy hcg hx hy
  go_enter Try.func60, Try.ntmps60
  go_wp2_with fail
  go_region
  go_wp2
  go_ret
  exact ⟨rfl, by first | exact Below.refl _ _ | exact below_drew (Below.refl _ _) | exact below_drewN (Below.refl _ _) _⟩
end Go.Proofs.Ytnfaibenekninaa.L

set_option linter.unusedVariables false
set_option linter.unusedSimpArgs false
namespace Go.Proofs.Ytnfaibenekninaa.L
open Go.RowKit Go.Maps
theorem laidM : laidOutB Try.prog = true := by kernel_rfl
/-- Keys of a type: how they lie, and what they read as. -/
structure KeyE (κ : Type) where
  K : Nat
  law : Keyed Try.prog K
  enc : κ → Value
  ok : κ → Prop
  kl : κ → Lit
  key : ∀ x, ok x → keyOf Try.prog K (enc x) = some (kl x)
  inj : ∀ x y, ok x → ok y → enc x = enc y → x = y
theorem KeyE.klInj {κ : Type} (E : KeyE κ) {x y : κ} (hx : E.ok x) (hy : E.ok y) (h : E.kl x = E.kl y) : x = y := by
  have h1 := E.key x hx
  have h2 := E.key y hy
  rw [← h] at h2
  exact E.inj x y hx hy (E.law.inj h1 h2)
theorem keysPos : ∃ m, Try.prog.types.size = m + 1 := by
  have h : 0 < Try.prog.types.size := of_decide_eq_true (by kernel_rfl)
  exact ⟨Try.prog.types.size - 1, by omega⟩
theorem i64wf {a : Int} (h : -9223372036854775808 ≤ a ∧ a ≤ 9223372036854775807) : (Lit.int .i64 a).wf = true := by
  simp only [Lit.wf, Bool.and_eq_true, decide_eq_true_eq]
  exact h
theorem lits_int (m : Nat) {a : Int} (h : -9223372036854775808 ≤ a ∧ a ≤ 9223372036854775807) : Try.prog.keyLits (m + 1) 3 [.int .i64 a] = some [.int .i64 a] := by
  simp [Program.keyLits, Try.underlying3, i64wf h]
theorem lits_str (m : Nat) {s : ByteArray} (h : s.size ≤ maxLen) : Try.prog.keyLits (m + 1) 9 [.string s] = some [.string s.data.toList] := by
  simp [Program.keyLits, Try.underlying9, h]
/-- A pair of numbers as a key. -/
def srtV (p : Int × Int) : Value := .agg #[.int .i64 p.1, .int .i64 p.2]
def in64 (a : Int) : Prop := -9223372036854775808 ≤ a ∧ a ≤ 9223372036854775807
theorem key_srt (p : Int × Int) (h : in64 p.1 ∧ in64 p.2) : keyOf Try.prog 89 (srtV p) = some (.string (keyBytes [.int .i64 p.1, .int .i64 p.2])) := by
  obtain ⟨m, hm⟩ := keysPos
  have h1 : Try.prog.keyType 89 = true := by kernel_rfl
  have hc : Try.prog.cellsOf 89 = 2 := by kernel_rfl
  have hi : Try.prog.cellsOf 3 = 1 := by kernel_rfl
  have e1 := lits_int m (a := p.1) h.1
  have e2 := lits_int m (a := p.2) h.2
  unfold keyOf
  rw [hm]
  simp [Try.underlying89, h1, Value.formed, srtV, hc, hi, Program.keyLits, Value.cells, i64wf h.1, i64wf h.2, Try.underlying3]
theorem row_srt : (89 : Nat) < Try.prog.types.size := of_decide_eq_true (by kernel_rfl)
theorem law_srt : Keyed Try.prog 89 := Keyed.of_law (deep_law_laid laidM (m := 2) (by omega) row_srt (by kernel_rfl) (by kernel_rfl))
def KSrt : KeyE (Int × Int) where
  K := 89
  law := law_srt
  enc := srtV
  ok := fun p => in64 p.1 ∧ in64 p.2
  kl := fun p => .string (keyBytes [.int .i64 p.1, .int .i64 p.2])
  key := key_srt
  inj := fun x y _ _ h => by
    unfold srtV at h
    simp at h
    exact Prod.ext h.1 h.2
/-- A group, and a text of others, as a key. -/
def grpV (p : Nat × List UInt8) : Value := .agg #[.int .i64 p.1, .string ⟨p.2.toArray⟩]
theorem key_grp (p : Nat × List UInt8) (h : p.1 ≤ 1000000 ∧ p.2.length ≤ 1000000000) : keyOf Try.prog 178 (grpV p) = some (.string (keyBytes [.int .i64 p.1, .string p.2])) := by
  obtain ⟨m, hm⟩ := keysPos
  have h1 : Try.prog.keyType 178 = true := by kernel_rfl
  have hc : Try.prog.cellsOf 178 = 2 := by kernel_rfl
  have hi : Try.prog.cellsOf 3 = 1 := by kernel_rfl
  have hs : Try.prog.cellsOf 9 = 1 := by kernel_rfl
  have e1 := lits_int m (a := (p.1 : Int)) (by omega)
  have e2 := lits_str m (s := ⟨p.2.toArray⟩) (by show p.2.toArray.size ≤ maxLen; unfold maxLen; simp; omega)
  have w1 : (Lit.int .i64 (p.1 : Int)).wf = true := i64wf (by omega)
  have w2 : ({ data := p.2.toArray } : ByteArray).size ≤ maxLen := by show p.2.toArray.size ≤ maxLen; unfold maxLen; simp; omega
  unfold keyOf
  rw [hm]
  simp [Try.underlying178, h1, Value.formed, grpV, hc, hi, hs, Program.keyLits, Value.cells, w1, w2, Try.underlying3, Try.underlying9]
theorem row_grp : (178 : Nat) < Try.prog.types.size := of_decide_eq_true (by kernel_rfl)
theorem law_grp : Keyed Try.prog 178 := Keyed.of_law (deep_law_laid laidM (m := 2) (by omega) row_grp (by kernel_rfl) (by kernel_rfl))
def KGrp : KeyE (Nat × List UInt8) where
  K := 178
  law := law_grp
  enc := grpV
  ok := fun p => p.1 ≤ 1000000 ∧ p.2.length ≤ 1000000000
  kl := fun p => .string (keyBytes [.int .i64 p.1, .string p.2])
  key := key_grp
  inj := fun x y _ _ h => by
    unfold grpV at h
    simp at h
    exact Prod.ext (by omega) h.2
def inS {κ : Type} [DecidableEq κ] (S : List κ) (x : κ) : Bool := decide (x ∈ S)
theorem inS_yes {κ : Type} [DecidableEq κ] {S : List κ} {x : κ} (h : x ∈ S) : inS S x = true := decide_eq_true h
theorem inS_no {κ : Type} [DecidableEq κ] {S : List κ} {x : κ} (h : x ∉ S) : inS S x = false := decide_eq_false h
def ixOn {κ : Type} [DecidableEq κ] (S : List κ) (x : κ) : Nat := S.idxOf x
/-- Block b is a map of the things of S to their places there. -/
structure MapN {κ : Type} [DecidableEq κ] (E : KeyE κ) (b : Nat) (S : List κ) (w : World) : Prop where
  ok : ∀ x ∈ S, E.ok x
  nd : S.Nodup
  ex : ∃ D : DataW Unit, w.ownsMap Try.prog E.K (plainElem Try.prog 3) b S.length D ∧ size D = S.length ∧ (∀ x, E.ok x → has D (E.kl x) = decide (x ∈ S)) ∧ ∀ x ∈ S, D.atKey (E.kl x) (.lit (.int .i64 0)) = .lit (.int .i64 (ixOn S x : Nat))
namespace MapN
variable {κ : Type} [DecidableEq κ] {E : KeyE κ} {b : Nat} {S : List κ} {w w' : World}
theorem made (w : World) : MapN E w.heap.size [] (w.alloc (.map #[] 0)) :=
  ⟨fun x hx => (by cases hx), List.nodup_nil, .map [], World.ownsMap_made _ _ _ _, rfl, fun x _ => rfl, fun x hx => (by cases hx)⟩
theorem lt (h : MapN E b S w) : b < w.heap.size := by
  obtain ⟨_, _, D, h1, _⟩ := h
  exact h1.lt
theorem chg {A : Nat → Prop} (h : MapN E b S w) (hc : Chg A w w') (hA : ¬ A b) : MapN E b S w' := by
  obtain ⟨h0, h00, D, ⟨es, clock, hb, F, hs, hD⟩, h2, h3, h4⟩ := h
  exact ⟨h0, h00, D, ⟨es, clock, hc.blk hb hA, F, hs, hD⟩, h2, h3, h4⟩
theorem below (h : MapN E b S w) (hb : Below w.heap.size w w') : MapN E b S w' := h.chg (A := fun _ => False) (Chg.of_below hb) id
end MapN
theorem zeroIntM (w : World) : (zeroValue 3).run Try.prog w = .ok (.int .i64 0) w := by kernel_rfl
section
variable {κ : Type} [DecidableEq κ] {E : KeyE κ} {b : Nat} {S : List κ} {w : World} {ops : Array Oper} {rest : List Oper} {o : Oper} {a : Act} {Q : Exit → Act → World → Prop}
/-- v, ok := m[k]. -/
theorem mapN_look (hg : o.guard = none) (m x : Operand) (t : TypeId) (hop : o.op = Op.lookup t m x true) (ht : Try.prog.underlying t = some (.map E.K 3)) (hm : a.eval m = .map (some b)) (h : MapN E b S w) (k : κ) (hk : E.ok k) (hx : a.eval x = E.enc k)
    (hK : ∀ c : Int, (k ∈ S → c = (ixOn S k : Nat)) → wpList Try.prog ops Q rest (a.put o.dst (.tuple #[.int .i64 c, .bool (inS S k)])) w) :
    wpList Try.prog ops Q (o :: rest) a w := by
  obtain ⟨h0, h00, D, h1, h2, h3, h4⟩ := h
  refine wpList_lookup_own_ok_int w hg m x t hop E.K 3 .i64 E.law ht Try.underlying3 (zeroIntM w) b S.length D hm h1 _ (E.kl k) hx (E.key k hk) ?_
  intro c hat hwc
  rw [h3 k hk]
  show wpList _ _ _ _ (a.put o.dst (.tuple #[.int .i64 c, .bool (inS S k)])) w
  refine hK c (fun hin => ?_)
  have := h4 k hin
  rw [hat] at this
  simpa using this
/-- len(m). -/
theorem mapN_len (hg : o.guard = none) (m : Operand) (t : TypeId) (hop : o.op = Op.call { callee := Callee.builtin Builtin.len, args := #[m], argTypes := #[t] }) (ht : Try.prog.underlying t = some (.map E.K 3)) (hm : a.eval m = .map (some b)) (h : MapN E b S w)
    (hK : wpList Try.prog ops Q rest (a.put o.dst (.int .i64 (S.length : Nat))) w) : wpList Try.prog ops Q (o :: rest) a w := by
  obtain ⟨h0, h00, D, h1, h2, h3, h4⟩ := h
  refine wpList_len_own w hg m t hop E.K 3 ht _ b S.length D hm h1 ?_
  rw [h2]
  exact hK
/-- m[k] = len(m), k not there. -/
theorem mapN_put (hg : o.guard = none) (m x v : Operand) (t : TypeId) (hop : o.op = Op.mapUpdate t m x v) (ht : Try.prog.underlying t = some (.map E.K 3)) (hm : a.eval m = .map (some b)) (h : MapN E b S w) (k : κ) (hk : E.ok k) (hx : a.eval x = E.enc k) (hv : a.eval v = .int .i64 (S.length : Nat)) (hn : k ∉ S) (hl : S.length ≤ 1000000)
    (hK : ∀ w', MapN E b (S ++ [k]) w' → Chg (fun q => q = b) w w' → wpList Try.prog ops Q rest (a.put o.dst undef) w') :
    wpList Try.prog ops Q (o :: rest) a w := by
  obtain ⟨h0, h00, D, h1, h2, h3, h4⟩ := h
  refine wpList_mapUpdate_own w hg m x v t hop E.K 3 E.law ht _ b S.length D hm h1 (by unfold maxLen; omega) _ _ (E.kl k) hx hv (E.key k hk) _ [] (plainElem_int Try.underlying3 (i64wf (by omega))) ?_
  intro w' hown hg'
  refine hK w' ⟨fun y hy => ?_, ?_, _, by simpa using hown, ?_, fun y hy => ?_, fun y hy => ?_⟩ ⟨hg'.os, hg'.tape, hg'.output, hg'.size, fun q hq hne => hg'.block q hq (fun he => hne (by cases he; rfl))⟩
  · rcases List.mem_append.1 hy with hy | hy
    · exact h0 y hy
    · rw [List.mem_singleton.1 hy]; exact hk
  · exact List.nodup_append.2 ⟨h00, by simp, fun a ha b hb he => by rw [List.mem_singleton.1 hb] at he; exact hn (he ▸ ha)⟩
  · rw [size_put (h1.tidy E.law), h3 k hk, decide_eq_false hn, h2]
    simp
  · by_cases hky : y = k
    · subst hky
      rw [has_put_same h1.isMap (E.law.key (E.key y hk))]
      simp
    · rw [has_put_other (fun he => hky (E.klInj hy hk he)), h3 y hy]
      simp [hky]
  · rcases List.mem_append.1 hy with hy | hy
    · have hyk : y ≠ k := fun he => hn (he ▸ hy)
      rw [atKey_put_other (fun he => hyk (E.klInj (h0 y hy) hk he)), h4 y hy]; unfold ixOn; rw [List.idxOf_append, if_pos hy]
    · rw [List.mem_singleton.1 hy, atKey_put_same h1.isMap (E.law.key (E.key k hk))]; unfold ixOn; rw [List.idxOf_append, if_neg hn]
      simp
end
end Go.Proofs.Ytnfaibenekninaa.L

set_option linter.unusedVariables false
set_option linter.unusedSimpArgs false
namespace Go.Proofs.Ytnfaibenekninaa.L
open Go.RowKit Go.Maps
def KInt : KeyE Int where
  K := 3
  law := int_keyed Try.underlying3
  enc := .int .i64
  ok := in64
  kl := .int .i64
  key := fun x h => keyOf_int_mk Try.underlying3 (i64wf h)
  inj := fun x y _ _ h => by simpa using h
/-- Block b is a map of the numbers of S to what val tells of them. -/
structure MapV (val : Int → Int) (b : Nat) (S : List Int) (w : World) : Prop where
  ok : ∀ x ∈ S, in64 x
  ex : ∃ D : DataW Unit, w.ownsMap Try.prog KInt.K (plainElem Try.prog 3) b S.length D ∧ size D = S.length ∧ (∀ x, in64 x → has D (KInt.kl x) = decide (x ∈ S)) ∧ ∀ x ∈ S, D.atKey (KInt.kl x) (.lit (.int .i64 0)) = .lit (.int .i64 (val x))
namespace MapV
variable {val : Int → Int} {b : Nat} {S : List Int} {w w' : World}
theorem made (w : World) : MapV val w.heap.size [] (w.alloc (.map #[] 0)) :=
  ⟨fun x hx => (by cases hx), .map [], World.ownsMap_made _ _ _ _, rfl, fun x _ => rfl, fun x hx => (by cases hx)⟩
theorem lt (h : MapV val b S w) : b < w.heap.size := by
  obtain ⟨_, D, h1, _⟩ := h
  exact h1.lt
theorem chg {A : Nat → Prop} (h : MapV val b S w) (hc : Chg A w w') (hA : ¬ A b) : MapV val b S w' := by
  obtain ⟨h0, D, ⟨es, clock, hb, F, hs, hD⟩, h2, h3, h4⟩ := h
  exact ⟨h0, D, ⟨es, clock, hc.blk hb hA, F, hs, hD⟩, h2, h3, h4⟩
theorem below (h : MapV val b S w) (hb : Below w.heap.size w w') : MapV val b S w' := h.chg (A := fun _ => False) (Chg.of_below hb) id
end MapV
section
variable {val : Int → Int} {b : Nat} {S : List Int} {w : World} {ops : Array Oper} {rest : List Oper} {o : Oper} {a : Act} {Q : Exit → Act → World → Prop}
/-- v, ok := m[k]. -/
theorem mapV_look (hg : o.guard = none) (m x : Operand) (t : TypeId) (hop : o.op = Op.lookup t m x true) (ht : Try.prog.underlying t = some (.map 3 3)) (hm : a.eval m = .map (some b)) (h : MapV val b S w) (k : Int) (hk : in64 k) (hx : a.eval x = .int .i64 k)
    (hK : ∀ c : Int, (k ∈ S → c = val k) → wpList Try.prog ops Q rest (a.put o.dst (.tuple #[.int .i64 c, .bool (inS S k)])) w) :
    wpList Try.prog ops Q (o :: rest) a w := by
  obtain ⟨h0, D, h1, h2, h3, h4⟩ := h
  refine wpList_lookup_own_ok_int w hg m x t hop KInt.K 3 .i64 KInt.law ht Try.underlying3 (zeroIntM w) b S.length D hm h1 _ (KInt.kl k) hx (KInt.key k hk) ?_
  intro c hat hwc
  rw [h3 k hk]
  show wpList _ _ _ _ (a.put o.dst (.tuple #[.int .i64 c, .bool (inS S k)])) w
  refine hK c (fun hin => ?_)
  have := h4 k hin
  rw [hat] at this
  simpa using this
/-- m[k] = val k, k not there. -/
theorem mapV_put (hg : o.guard = none) (m x v : Operand) (t : TypeId) (hop : o.op = Op.mapUpdate t m x v) (ht : Try.prog.underlying t = some (.map 3 3)) (hm : a.eval m = .map (some b)) (h : MapV val b S w) (k : Int) (hk : in64 k) (hx : a.eval x = .int .i64 k) (y : Int) (hv : a.eval v = .int .i64 y) (hy : y = val k) (hyw : in64 y) (hn : k ∉ S) (hl : S.length ≤ 1000000)
    (hK : ∀ w', MapV val b (S ++ [k]) w' → Chg (fun q => q = b) w w' → wpList Try.prog ops Q rest (a.put o.dst undef) w') :
    wpList Try.prog ops Q (o :: rest) a w := by
  obtain ⟨h0, D, h1, h2, h3, h4⟩ := h
  refine wpList_mapUpdate_own w hg m x v t hop KInt.K 3 KInt.law ht _ b S.length D hm h1 (by unfold maxLen; omega) _ _ (KInt.kl k) hx hv (KInt.key k hk) _ [] (plainElem_int Try.underlying3 (i64wf hyw)) ?_
  intro w' hown hg'
  refine hK w' ⟨fun z hz => ?_, _, by simpa using hown, ?_, fun z hz => ?_, fun z hz => ?_⟩ ⟨hg'.os, hg'.tape, hg'.output, hg'.size, fun q hq hne => hg'.block q hq (fun he => hne (by cases he; rfl))⟩
  · rcases List.mem_append.1 hz with hz | hz
    · exact h0 z hz
    · rw [List.mem_singleton.1 hz]; exact hk
  · rw [size_put (h1.tidy KInt.law), h3 k hk, decide_eq_false hn, h2]
    simp
  · by_cases hky : z = k
    · subst hky
      rw [has_put_same h1.isMap (KInt.law.key (KInt.key z hk))]
      simp
    · rw [has_put_other (fun he => hky (KInt.klInj hz hk he)), h3 z hz]
      simp [hky]
  · rcases List.mem_append.1 hz with hz | hz
    · have hyk : z ≠ k := fun he => hn (he ▸ hz)
      rw [atKey_put_other (fun he => hyk (KInt.klInj (h0 z hz) hk he)), h4 z hz]
    · rw [List.mem_singleton.1 hz, atKey_put_same h1.isMap (KInt.law.key (KInt.key k hk)), hy]
end
end Go.Proofs.Ytnfaibenekninaa.L

set_option linter.unusedVariables false
set_option linter.unusedSimpArgs false
namespace Go.Proofs.Ytnfaibenekninaa.L
open Go.RowKit
theorem handP_step (p : Pt) (q i : Int) {m : Nat} : handP p q i (m + 1) = handP p q i m ++ (if p.next.getD m 0 = q then [(p.args.getD m []).getD i.toNat 0] else []) := handP_succ p q i m
set_option maxRecDepth 100000 in
set_option maxHeartbeats 4000000 in
theorem handed_calls {F : Nat → Prop} (s : Sa) (sb so q i : Nat) (vparts : Value) (w : World) (hc : w.cell? ⟨sb, so, none⟩ = some vparts) (hs : Rp.Rd part w F vparts s.parts)
    (hlen : s.parts.length ≤ 11 ∧ ∀ p ∈ s.parts, p.next.length ≤ 6) (hed : ∀ p ∈ s.parts, ∀ m, m < p.next.length → m < p.args.length ∧ (p.next.getD m 0 = q → i < (p.args.getD m []).length)) :
    Calls Try.prog 119 #[.pointer (some ⟨sb, so, none⟩), .int .i64 q, .int .i64 i] w fun e w' => ∃ v', e = .returned v' ∧ Ow true 3 Rp.int w' (fun k => w.heap.size ≤ k) v' (handS s.parts q i) ∧ Below w.heap.size w w' := by
  obtain ⟨A, c, rfl, hlc, hcm, hrow⟩ := rd_part hs
  have hB := below_new (w := w) (.cells #[] 3)
  have hO := (ow_empty (r := Rp.int) (ap := true) (heap_alloc_new w (.cells #[] 3))).mono (G := fun q => w.heap.size ≤ q) (fun q hq => by have hq : q = w.heap.size := hq; omega)
  have hz : w.heap.size < (w.alloc (.cells #[] 3)).heap.size := by simp
  have HE := Lib.hid hed
  have HNl := Lib.hid hlen.2
  have hlp := hlen.1
  have HSl : Hid (∀ k, k ≤ s.parts.length → (handS (s.parts.take k) q i).length ≤ 66) := Lib.hid (fun k hk => Nat.le_trans (handS_len (B := 6) (fun p hp => hlen.2 p (List.mem_of_mem_take hp))) (by rw [List.length_take]; omega))
  clear hs hed hlen
  go_enter Try.func119, Try.ntmps119
  have hcc := cell_below hB hc
  go_wp2_with fail
  generalize w.alloc (.cells #[] 3) = W1 at *
  go_loopw [7, 17] (fun av x wr => ∃ (m : Nat) (sv : Value), sv = av ∧ m ≤ s.parts.length ∧ x = .int .i64 m ∧ Ow true 3 Rp.int wr (fun k => w.heap.size ≤ k) sv (handS (s.parts.take m) q i) ∧ Below w.heap.size w wr) (fun _ x _ => s.parts.length - (intOf x).toNat)
  case atStart => exact ⟨0, _, rfl, Nat.zero_le _, rfl, by simpa [handS] using hO, hB⟩
  case round =>
    clear hO hB hcc
    obtain ⟨m, sv, rfl, hm, rfl, HO, HB⟩ := hrel
    rename World => wo
    by_cases hlt : m < s.parts.length
    · rcases hrow with hnil | ⟨b, o, rfl, hb, hcell⟩
      · rw [hnil] at hlt; simp at hlt
      obtain ⟨_, _, _, _, hp, ⟨A1, c1, rfl, _⟩, ⟨A2, c2, rfl, _⟩, h3, h4⟩ := hcell m hlt
      obtain ⟨A3, c3, rfl, _, _, hr3⟩ := rd_int h3
      obtain ⟨A4, c4, rfl, _, _, hr4⟩ := rd_ints h4
      have hpm := List.getElem_mem hlt
      have hed := Lib.hid (HE.out _ hpm)
      have hnl := HNl.out _ hpm
      have hsl := HSl.out m hm
      have hTk := Lib.hid (handS_take hlt q i)
      obtain ⟨q0, q1, q2, q3, q4, q5⟩ := partAt_below hp HB
      have hcw := cell_below HB hc
      have HP := Lib.hid hp
      clear hcell hpm hp
      obtain ⟨p, hpe⟩ : ∃ p, p = s.parts[m] := ⟨_, rfl⟩
      rw [← hpe] at h3 h4 hr3 hr4 hed hnl hTk q0 q1 q2 q3 q4 q5 HP
      clear hpe
      obtain ⟨H0, hH0⟩ : ∃ H0, H0 = handS (s.parts.take m) q i := ⟨_, rfl⟩
      rw [← hH0] at HO hsl hTk
      clear hH0
      have i0 : (0 : Int) ≤ (m : Int) := Int.natCast_nonneg _
      have i1 : (m : Int) < (s.parts.length : Int) := by omega
      have HO0 : Ow true 3 Rp.int wo (fun k => w.heap.size ≤ k) sv (H0 ++ handP p q i 0) := by simpa [handP] using HO
      clear HO
      go_wp2_with fail
      clear q0 q1 q2 q3 q4 q5 hcw
      go_loopw [7, 29] (fun av x wr => ∃ (n : Nat) (sv : Value), sv = av ∧ n ≤ p.next.length ∧ x = .int .i64 n ∧ Ow true 3 Rp.int wr (fun k => w.heap.size ≤ k) sv (H0 ++ handP p q i n) ∧ Below w.heap.size w wr) (fun _ x _ => p.next.length - (intOf x).toNat)
      case atStart => exact ⟨0, _, rfl, Nat.zero_le _, rfl, HO0, HB⟩
      case round =>
        clear HO0 HB
        obtain ⟨n, sv, rfl, hn, rfl, HO, HB⟩ := hrel
        rename World => wx
        by_cases hnt : n < p.next.length
        · rcases hr3 with hn0 | ⟨b3, o3, rfl, hb3, hc3⟩
          · rw [hn0] at hnt; simp at hnt
          have cv := cell_below HB (hc3 n hnt)
          have hed1 := Lib.hid (hed.out n hnt)
          have e : p.next.getD n 0 = p.next[n] := by rw [List.getD_eq_getElem?_getD, List.getElem?_eq_getElem hnt]; rfl
          have hSt := Lib.hid (handP_step p q i (m := n))
          rw [e] at hSt hed1
          have hLn := handP_len p q i n
          clear hc3 e
          obtain ⟨y, hy⟩ : ∃ y, y = p.next[n] := ⟨_, rfl⟩
          rw [← hy] at cv hSt hed1
          clear hy
          have n0 : (0 : Int) ≤ (n : Int) := Int.natCast_nonneg _
          have n1 : (n : Int) < (p.next.length : Int) := by omega
          by_cases hyq : y = (q : Int)
          · have hal := (hed1.out).1
            have hai := (hed1.out).2 hyq
            have hSt2 : Hid (H0 ++ handP p q i (n + 1) = (H0 ++ handP p q i n) ++ [(p.args.getD n []).getD i 0]) := Lib.hid (by rw [hSt.out, if_pos hyq, List.append_assoc]; rfl)
            rcases hr4 with hn0 | ⟨b4, o4, rfl, hb4, hc4⟩
            · rw [hn0] at hal; simp at hal
            obtain ⟨u4, cu4, hu4⟩ := hc4 n hal
            have e4 : p.args.getD n [] = p.args[n] := by rw [List.getD_eq_getElem?_getD, List.getElem?_eq_getElem hal]; rfl
            rw [e4] at hai hSt2
            obtain ⟨A5, c5, rfl, _, _, hr5⟩ := rd_int hu4
            rcases hr5 with hn0 | ⟨b5, o5, rfl, hb5, hc5⟩
            · rw [hn0] at hai; simp at hai
            have cu5 := cell_below HB (hc5 i hai)
            have cu4 := cell_below HB cu4
            have e5 : p.args[n].getD i 0 = p.args[n][i] := by rw [List.getD_eq_getElem?_getD, List.getElem?_eq_getElem hai]; rfl
            rw [e5] at hSt2
            obtain ⟨z, hz⟩ : ∃ z, z = p.args[n][i] := ⟨_, rfl⟩
            rw [← hz] at hSt2 cu5
            clear hz e4 e5 hc5 hc4
            obtain ⟨La, hLa⟩ : ∃ La, La = p.args[n].length := ⟨_, rfl⟩
            rw [← hLa] at cu4 hai
            clear hLa hu4
            obtain ⟨q0, q1, q2, q3, q4, q5⟩ := partAt_below HP.out HB
            have hcw := cell_below HB hc
            obtain ⟨l1, hl1⟩ : ∃ l1, l1 = H0 ++ handP p q i n := ⟨_, rfl⟩
            have hl1n : l1.length ≤ 200 := by rw [hl1, List.length_append]; omega
            rw [← hl1] at HO hSt2
            clear hl1 hSt hed1
            obtain ⟨Av, kv, rfl, _, _⟩ := HO.form
            have a0 : (0 : Int) ≤ (i : Int) := Int.natCast_nonneg _
            have a1 : (i : Int) < (La : Int) := by omega
            have a2 : (n : Int) < (p.args.length : Int) := by omega
            subst hyq
            go_wp2_with (at_builtin; (refine app_int (by rfl) _ _ (by rfl) (.slice Av l1.length kv) l1 z wx.heap.size rfl (by rfl) (by rfl) HO (by omega) ?_; intro A' c' w3 HO3 hg; have HB3 := below_grown HB hg (fun q hq => own_in HO (.inr hq)) HB.size; have HO4 := HO3.mono (G := fun q => w.heap.size ≤ q) (fun q hq => by have := HB.size; rcases hq with hq | hq; exact hq; omega)))
            go_roundw
            case rel => exact ⟨n + 1, _, rfl, by omega, by go_num, by rw [hSt2.out]; simpa using HO4, HB3⟩
            case measure => simp [intOf]; omega
          · have hSt2 : Hid (H0 ++ handP p q i (n + 1) = H0 ++ handP p q i n) := Lib.hid (by rw [hSt.out, if_neg hyq, List.append_nil])
            have hne : (y == (q : Int)) = false := by simpa using hyq
            clear hyq hSt hed1
            go_wp2
            go_roundw
            case rel => exact ⟨n + 1, _, rfl, by omega, by go_num, by rw [hSt2.out]; exact HO, HB⟩
            case measure => simp [intOf]; omega
        · obtain rfl : n = p.next.length := by omega
          rw [← hTk.out] at HO
          go_wp2
          go_roundw
          case rel => exact ⟨m + 1, _, rfl, by omega, by go_num, HO, HB⟩
          case measure => simp [intOf]; omega
    · obtain rfl : m = s.parts.length := by omega
      rw [List.take_length] at HO
      go_wp2
      go_ret
      exact ⟨_, rfl, HO, HB⟩
end Go.Proofs.Ytnfaibenekninaa.L
