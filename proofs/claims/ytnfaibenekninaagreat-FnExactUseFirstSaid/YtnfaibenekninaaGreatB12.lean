/- Joined texts, each of which was built by itself: Mr6 Sc1 Rg1 Sc2. -/
import Derived.Test.YtnfaibenekninaaGreatB11
import Derived.Test.YtnfaibenekninaaGreatB3
import Derived.Test.YtnfaibenekninaaGreatB2
import Derived.Deep.QuietTactic
import Derived.Lib.SliceRun
import Derived.Deep.RegionHeld3
import Derived.StillTail
import Derived.Lib.Hide
import Derived.WalkKit
import Derived.RowKit
import Derived.Test.YtnfaibenekninaaGreatB7
import Derived.Deep.CutRange
set_option linter.unusedVariables false
set_option linter.unusedSimpArgs false
namespace Go.Proofs.YtnfaibenekninaaGreat.L
open Go.RowKit
/-- Small enough to be counted through. -/
def PtOk (p : Pt) : Prop := p.params.length ≤ 300 ∧ p.code.length ≤ 100 ∧ p.next.length ≤ 10 ∧ p.args.length ≤ 10 ∧ ∀ a ∈ p.args, a.length ≤ 300
def PtsOk (L : List Pt) : Prop := L.length ≤ 100 ∧ ∀ p ∈ L, PtOk p
def sizeP (p : Pt) : Nat := p.params.length + 6 * p.code.length + 2 + p.next.length + totLL p.args
def mkPt (z : Int) (p : Pt) : Pt := ⟨upL z p.params.length, upF (z + p.params.length) p.code.length, z + p.params.length + 6 * p.code.length, z + p.params.length + 6 * p.code.length + 1, upL (z + p.params.length + 6 * p.code.length + 1 + 1) p.next.length, marksLL (z + p.params.length + 6 * p.code.length + 1 + 1 + p.next.length) p.args⟩
def marksP (k : Int) : List Pt → List Pt
  | [] => []
  | p :: t => mkPt k p :: marksP (k + sizeP p) t
def totP (L : List Pt) : Nat := (L.map sizeP).sum
theorem totLL_le3 {L : List (List Int)} (h : ∀ a ∈ L, a.length ≤ 300) : totLL L ≤ L.length * 300 := by
  induction L with
  | nil => simp [totLL]
  | cons p t ih =>
    have h1 := h p List.mem_cons_self
    have h2 := ih (fun q hq => h q (List.mem_cons_of_mem _ hq))
    have e : totLL (p :: t) = p.length + totLL t := by simp [totLL]
    rw [e, List.length_cons, Nat.succ_mul]; omega
theorem sizeP_le {p : Pt} (h : PtOk p) : sizeP p ≤ 3912 := by
  have := totLL_le3 h.2.2.2.2
  have h1 := h.2.2.2.1
  unfold sizeP
  have := h.1; have := h.2.1; have := h.2.2.1
  omega
theorem marksP_len (L : List Pt) : ∀ k, (marksP k L).length = L.length := by
  induction L with
  | nil => intro k; rfl
  | cons p t ih => intro k; simp [marksP, ih]
theorem totP_le {L : List Pt} (h : ∀ p ∈ L, PtOk p) : totP L ≤ L.length * 3912 := by
  induction L with
  | nil => simp [totP]
  | cons p t ih =>
    have h1 := sizeP_le (h p List.mem_cons_self)
    have h2 := ih (fun q hq => h q (List.mem_cons_of_mem _ hq))
    have e : totP (p :: t) = sizeP p + totP t := by simp [totP]
    rw [e, List.length_cons, Nat.succ_mul]; omega
theorem marksP_app : ∀ (A B : List Pt) (k : Int), marksP k (A ++ B) = marksP k A ++ marksP (k + totP A) B := by
  intro A
  induction A with
  | nil => intro B k; simp [marksP, totP]
  | cons a t ih =>
    intro B k
    have e : k + (sizeP a : Int) + (totP t : Int) = k + (totP (a :: t) : Int) := by
      have : totP (a :: t) = sizeP a + totP t := by simp [totP]
      rw [this]; push_cast; omega
    simp only [List.cons_append, marksP, ih, e]
theorem totP_take {L : List Pt} {m : Nat} (hm : m < L.length) : totP (L.take (m + 1)) = totP (L.take m) + sizeP L[m] ∧ ∀ k, marksP k (L.take (m + 1)) = marksP k (L.take m) ++ [mkPt (k + totP (L.take m)) L[m]] := by
  have hs : ∀ (A : List Pt) (x : Pt), totP (A ++ [x]) = totP A + sizeP x := fun A x => by simp [totP]
  rw [List.take_succ_eq_append_getElem hm]
  exact ⟨hs _ _, fun k => by rw [marksP_app]; rfl⟩
theorem marksP_get {k : Int} {L : List Pt} {m : Nat} (hm : m < L.length) (hm2 : m < (marksP k L).length) : (marksP k L)[m] = mkPt (k + totP (L.take m)) L[m] := by
  have h := (totP_take hm).2 k
  have h2 := marksP_app (L.take (m + 1)) (L.drop (m + 1)) k
  rw [List.take_append_drop, h] at h2
  have e1 : (marksP k (L.take m)).length = m := by rw [marksP_len, List.length_take]; omega
  have : (marksP k L)[m]? = some (mkPt (k + totP (L.take m)) L[m]) := by
    rw [h2, List.append_assoc, List.getElem?_append_right (by omega), e1, Nat.sub_self]; rfl
  rw [List.getElem?_eq_getElem hm2] at this
  exact Option.some.inj this
theorem partA_sz : partA.sz = 6 := rfl
set_option maxRecDepth 100000 in
set_option maxHeartbeats 8000000 in
theorem markP_own {F : Nat → Prop} (v : Value) (L : List Pt) (k : Int) (w : World) (h : Ow true 67 partA w F v L) (hL : PtsOk L) (hk : 0 ≤ k) (hk2 : k ≤ 1000) :
    Calls Tryz.prog 29 #[v, .int .i64 k] w fun e w' => e = .returned (.int .i64 (k + totP L)) ∧ Ow true 67 partA w' F v (marksP k L) ∧ Chg F w w' := by
  obtain ⟨A, c, rfl, hc1, hc2⟩ := h.form
  have hA : L.length = 0 ∨ ∃ g, A = some ⟨g, 0, none⟩ ∧ F g := by
    by_cases hn : L.length = 0
    · exact .inl hn
    obtain ⟨g, c0, cs0, he0, hF0, _, _, _, hz0⟩ := h.at_ (List.getElem?_eq_getElem (show 0 < L.length by omega))
    cases he0
    exact .inr ⟨g, rfl, hF0⟩
  have hL1 := hL.1
  have HL := Lib.hid hL.2
  clear hL
  go_enter Tryz.func29, Tryz.ntmps29
  go_wp2
  go_loopw [1, 5] (fun z i wr => ∃ m : Nat, m ≤ L.length ∧ i = .int .i64 m ∧ z = .int .i64 (k + totP (L.take m)) ∧ Ow true 67 partA wr F (.slice A L.length c) (marksP k (L.take m) ++ L.drop m) ∧ Chg F w wr) (fun _ i _ => L.length - (intOf i).toNat)
  case atStart => exact ⟨0, Nat.zero_le _, rfl, by simp [totP], by simpa [marksP] using h, Chg.refl _ _⟩
  case round =>
    obtain ⟨m, hm, rfl, rfl, HO, HC⟩ := hrel
    rename World => wo
    by_cases hlt : m < L.length
    · rcases hA with hA | ⟨g, rfl, hF0⟩
      · omega
      have hml : m < (marksP k (L.take m) ++ L.drop m).length := by rw [List.length_append, marksP_len, List.length_take, List.length_drop]; omega
      have e1 : (marksP k (L.take m)).length = m := by rw [marksP_len, List.length_take]; omega
      have hgt : (marksP k (L.take m) ++ L.drop m)[m] = L[m] := by
        rw [List.getElem_append_right (by omega), List.getElem_drop]
        congr 1; omega
      obtain ⟨Fr, Gk, us, hFr, hGk, hK, H0⟩ := HO.hole hml
      rw [hgt] at hK
      obtain ⟨ht1, ht2⟩ := totP_take hlt
      have hset : Hid ((marksP k (L.take m) ++ L.drop m).set m (mkPt (k + totP (L.take m)) L[m]) = marksP k (L.take (m + 1)) ++ L.drop (m + 1)) := Lib.hid (by
        rw [ht2 k, List.drop_eq_getElem_cons hlt, List.set_append_right _ _ (by omega), e1, Nat.sub_self, List.set_cons_zero, List.append_assoc]
        rfl)
      have htb := totP_le (L := L.take m) (fun a ha => HL.out a (List.mem_of_mem_take ha))
      rw [List.length_take] at htb
      obtain ⟨q1, q2, q3, q4⟩ := HL.out _ (List.getElem_mem hlt)
      have HT := Lib.hid ht1
      have HC0 := Lib.hid HC
      clear ht1 ht2 hgt h HO e1 HC
      generalize L[m] = p at *
      have q5 := totLL_le3 q4.2
      have q6 : p.args.length ≤ 1000 := by omega
      have q7 : Hid (∀ a ∈ p.args, a.length ≤ 1000) := Lib.hid (fun a ha => by have := q4.2 a ha; omega)
      generalize marksP k (L.take m) ++ L.drop m = LL at *
      obtain ⟨y, hy⟩ : ∃ y : Int, y = k + totP (L.take m) := ⟨_, rfl⟩
      rw [← hy] at hset ⊢
      have y0 : 0 ≤ y := by omega
      have y1 : y ≤ 400000 := by
        have : min m L.length * 3912 ≤ 100 * 3912 := Nat.mul_le_mul_right _ (by omega)
        omega
      have HY := Lib.hid hy
      clear hy htb
      obtain ⟨G0, G1, G2, G3, i0, i1, i2, i3, d01, d02, d03, d12, d13, d23, vp, vc, vn, va, rfl, k1, k2, k3, k4⟩ := partA_open hK
      have hn0 : ∀ q, G0 q → ¬ Fr q := fun q hq => (hGk q (i0 q hq)).2.1
      have hn1 : ∀ q, G1 q → ¬ Fr q := fun q hq => (hGk q (i1 q hq)).2.1
      have hn2 : ∀ q, G2 q → ¬ Fr q := fun q hq => (hGk q (i2 q hq)).2.1
      have hn3 : ∀ q, G3 q → ¬ Fr q := fun q hq => (hGk q (i3 q hq)).2.1
      have hGF : ∀ q, Gk q → F q := fun q hq => (hGk q hq).1
      have hgg := H0.lt
      obtain ⟨Ap, cp, rfl, _, _⟩ := k1.form
      obtain ⟨Ac, cc, rfl, _, _⟩ := k2.form
      obtain ⟨An, cn, rfl, _, _⟩ := k3.form
      obtain ⟨Aa, ca, rfl, _, _⟩ := k4.form
      have m0 : (0 : Int) ≤ (m : Int) := Int.natCast_nonneg _
      have m1 : (m : Int) < (L.length : Int) := by omega
      have x0 := H0.cell0 partA_sz rfl
      have C1 := Lib.hid (markI_own _ p.params y wo k1 (by omega) (by omega))
      go_wp2_with fail
      refine C1.out.mono ?_
      rintro e w1 ⟨rfl, k1, X1⟩
      have H1 := H0.chg X1 hn0
      have k2 := k2.move (X1.same (fun q hq h => d01 q h hq))
      have k3 := k3.move (X1.same (fun q hq h => d02 q h hq))
      have k4 := k4.move (X1.same (fun q hq h => d03 q h hq))
      have Y1 := X1.mono (A' := F) (fun q hq => hGF q (i0 q hq))
      have x1 := H1.cellj 1 partA_sz rfl
      have C2 := Lib.hid (markF_own _ p.code (y + p.params.length) w1 k2 (by omega) (by omega))
      clear C1 X1 x0 H0
      go_wp2_with fail
      refine C2.out.mono ?_
      rintro e w2 ⟨rfl, k2, X2⟩
      have H2 := H1.chg X2 hn1
      have k1 := k1.move (X2.same (fun q hq h => d01 q hq h))
      have k3 := k3.move (X2.same (fun q hq h => d12 q h hq))
      have k4 := k4.move (X2.same (fun q hq h => d13 q h hq))
      have Y2 := Y1.trans (X2.mono (A' := F) (fun q hq => hGF q (i1 q hq)))
      clear C2 X2 x1 H1 Y1
      obtain ⟨z, hz⟩ : ∃ z : Int, z = y + p.params.length + 6 * p.code.length := ⟨_, rfl⟩
      have HZ := Lib.hid hz
      have z0 : 0 ≤ z := by omega
      have z1 : z ≤ y + 7000 := by omega
      rw [← hz]
      clear hz
      have x2 := H2.cellj 2 partA_sz rfl
      have H3 := H2.setj (j := 2) partA_sz (by omega) (.int .i64 z)
      have x3 := H3.cellj 3 partA_sz rfl
      have H4 := H3.setj (j := 3) partA_sz (by omega) (.int .i64 (z + 1))
      have f2 := H2.free (m * 6 + 2)
      have f3 := H2.free (m * 6 + 3)
      have X3 := (Chg.set (A := fun q => q = g) (w := w2) (b := g) (o := m * 6 + 2) (u := .int .i64 z) rfl).trans (Chg.set (b := g) (o := m * 6 + 3) (u := .int .i64 (z + 1)) rfl)
      have x4 := H4.cellj 4 partA_sz rfl
      have hng : ∀ q, Gk q → q ≠ g := fun q hq => (hGk q hq).2.2
      have k1 := k1.move (X3.same (fun q hq h => hng q (i0 q hq) h))
      have k2 := k2.move (X3.same (fun q hq h => hng q (i1 q hq) h))
      have k3 := k3.move (X3.same (fun q hq h => hng q (i2 q hq) h))
      have k4 := k4.move (X3.same (fun q hq h => hng q (i3 q hq) h))
      have Y3 := Y2.trans (X3.mono (A' := F) (fun q hq => by have hq : q = g := hq; subst hq; exact hF0))
      have t1 : IntKind.i64.wrap (z + 1) = z + 1 := IntWalk.i64_in _ (by omega)
      have t2 : IntKind.i64.wrap (z + 1 + 1) = z + 1 + 1 := IntWalk.i64_in _ (by omega)
      have C3 := Lib.hid (markI_own _ p.next (z + 1 + 1) _ k3 (by omega) (by omega))
      clear H2 H3 X3 Y2
      go_wp2_with fail
      refine C3.out.mono ?_
      rintro e w3 ⟨rfl, k3, X5⟩
      have H5 := H4.chg X5 hn2
      have k1 := k1.move (X5.same (fun q hq h => d02 q hq h))
      have k2 := k2.move (X5.same (fun q hq h => d12 q hq h))
      have k4 := k4.move (X5.same (fun q hq h => d23 q h hq))
      have Y5 := Y3.trans (X5.mono (A' := F) (fun q hq => hGF q (i2 q hq)))
      have x5 := H5.cellj 5 partA_sz rfl
      have C4 := Lib.hid (markII_own _ p.args (z + 1 + 1 + p.next.length) w3 k4 q6 q7.out (by omega) (by omega))
      clear C3 X5 x2 x3 x4 f2 f3 H4 Y3
      go_wp2_with fail
      refine C4.out.mono ?_
      rintro e w4 ⟨rfl, k4, X6⟩
      have H6 := H5.chg X6 hn3
      have k1 := k1.move (X6.same (fun q hq h => d03 q hq h))
      have k2 := k2.move (X6.same (fun q hq h => d13 q hq h))
      have k3 := k3.move (X6.same (fun q hq h => d23 q hq h))
      have Y6 := Y5.trans (X6.mono (A' := F) (fun q hq => hGF q (i3 q hq)))
      have HYZ : Hid (y + (sizeP p : Int) = z + 1 + 1 + p.next.length + totLL p.args) := Lib.hid (by have := HZ.out; unfold sizeP; push_cast; omega)
      have hKn : partA.K w4 Gk (mkPt y p) _ := partA_mk (x := mkPt y p) i0 i1 i2 i3 d01 d02 d03 d12 d13 d23 k1 k2 (by unfold mkPt; dsimp only; rw [← HZ.out]; exact k3) (by unfold mkPt; dsimp only; rw [← HZ.out]; exact k4)
      have hus : (mkPt y p).go = z ∧ (mkPt y p).test = z + 1 := by unfold mkPt; dsimp only; rw [← HZ.out]; exact ⟨rfl, rfl⟩
      rw [hus.1, hus.2] at hKn
      have HS := (H6.close hKn (fun q hq => (hGk q hq).2.1)).mono (G := F) (fun q hq => by rcases hq with hq | hq; exact hFr q hq; exact hGF q hq)
      rw [hset.out] at HS
      have HC2 := HC0.out.trans Y6
      clear C4 X6 x5 H5 Y5 H6 k1 k2 k3 k4 hKn hus HC0 hset
      go_wp2_with fail
      go_roundw
      case rel => exact ⟨m + 1, by omega, by go_num, by rw [HT.out]; congr 1; have := HYZ.out; have := HY.out; push_cast; omega, HS, HC2⟩
      case measure => simp [intOf]; omega
    · obtain rfl : m = L.length := by omega
      rw [List.take_length, List.drop_length, List.append_nil] at HO
      rw [List.take_length]
      go_wp2
      go_ret
      exact ⟨rfl, HO, HC⟩
set_option maxRecDepth 100000 in
set_option maxHeartbeats 8000000 in
theorem heldP_calls {F : Nat → Prop} (v : Value) (L : List Pt) (k : Int) (w : World) (h : Rp.Rd part w F v (marksP k L)) (hL : PtsOk L) (hk : 0 ≤ k) (hk2 : k ≤ 1000) :
    Calls Tryz.prog 30 #[v, .int .i64 k] w fun e w' => e = .returned (.int .i64 (k + totP L)) ∧ w = w' := by
  obtain ⟨A, c, rfl, hc1, hc2, hrow⟩ := rd_part h
  have hll : (marksP k L).length = L.length := marksP_len L k
  have hrow : L.length = 0 ∨ ∃ b o, A = some ⟨b, o, none⟩ ∧ ∀ m (hm : m < L.length), ∃ vp vc vn va, partAt w b (o + m * 6) (mkPt (k + totP (L.take m)) L[m]) vp vc vn va ∧ Rp.Rd Rp.int w F vp (mkPt (k + totP (L.take m)) L[m]).params ∧ Rp.Rd flat w F vc (mkPt (k + totP (L.take m)) L[m]).code ∧ Rp.Rd Rp.int w F vn (mkPt (k + totP (L.take m)) L[m]).next ∧ Rp.Rd (Rp.sl Rp.int) w F va (mkPt (k + totP (L.take m)) L[m]).args := by
    rcases hrow with hnil | ⟨b, o, e, hb, hc⟩
    · left; rw [hnil] at hll; simpa using hll.symm
    · refine .inr ⟨b, o, e, fun m hm => ?_⟩
      have := hc m (by omega)
      rwa [marksP_get hm] at this
  rw [hll]
  rw [hll] at hc1
  have hL1 := hL.1
  have HL := Lib.hid hL.2
  clear hL h hll
  go_enter Tryz.func30, Tryz.ntmps30
  go_wp2
  go_loop [1, 5] (fun z i => ∃ m : Nat, m ≤ L.length ∧ i = .int .i64 m ∧ z = .int .i64 (k + totP (L.take m))) (fun _ i => L.length - (intOf i).toNat)
  case atStart => exact ⟨0, Nat.zero_le _, rfl, by simp [totP]⟩
  case round =>
    obtain ⟨m, hm, rfl, rfl⟩ := hrel
    by_cases hlt : m < L.length
    · rcases hrow with hnil | ⟨b, o, rfl, hcell⟩
      · omega
      obtain ⟨vp, vc, vn, va, hp, k1, k2, k3, k4⟩ := hcell m hlt
      obtain ⟨ht1, -⟩ := totP_take hlt
      have htb := totP_le (L := L.take m) (fun a ha => HL.out a (List.mem_of_mem_take ha))
      rw [List.length_take] at htb
      obtain ⟨q1, q2, q3, q4⟩ := HL.out _ (List.getElem_mem hlt)
      have HT := Lib.hid ht1
      clear hcell ht1
      generalize L[m] = p at *
      have q5 := totLL_le3 q4.2
      have q6 : p.args.length ≤ 1000 := by omega
      have q7 : Hid (∀ a ∈ p.args, a.length ≤ 1000) := Lib.hid (fun a ha => by have := q4.2 a ha; omega)
      obtain ⟨y, hy⟩ : ∃ y : Int, y = k + totP (L.take m) := ⟨_, rfl⟩
      rw [← hy] at hp k1 k2 k3 k4 ⊢
      have y0 : 0 ≤ y := by omega
      have y1 : y ≤ 400000 := by
        have : min m L.length * 3912 ≤ 100 * 3912 := Nat.mul_le_mul_right _ (by omega)
        omega
      have HY := Lib.hid hy
      clear hy htb
      obtain ⟨z, hz⟩ : ∃ z : Int, z = y + p.params.length + 6 * p.code.length := ⟨_, rfl⟩
      unfold mkPt at hp k1 k2 k3 k4
      rw [← hz] at hp k3 k4
      dsimp only at k1 k2 k3 k4
      obtain ⟨x0, x1, x2, x3, x4, x5⟩ := hp
      dsimp only at x2 x3
      obtain ⟨Ap, cp, rfl, _, _⟩ := id k1
      obtain ⟨Ac, cc, rfl, _, _⟩ := id k2
      obtain ⟨An, cn, rfl, _, _⟩ := id k3
      obtain ⟨Aa, ca, rfl, _, _⟩ := id k4
      have HZ := Lib.hid hz
      have z0 : 0 ≤ z := by omega
      have z1 : z ≤ y + 7000 := by omega
      have C1 := Lib.hid (heldI_calls _ p.params.length y w k1 (by omega) (by omega))
      have C2 := Lib.hid (heldF_calls _ p.code.length (y + p.params.length) w k2 (by omega) (by omega))
      rw [← hz] at C2
      have C3 := Lib.hid (heldI_calls _ p.next.length (z + 1 + 1) w k3 (by omega) (by omega))
      have C4 := Lib.hid (heldII_calls _ p.args (z + 1 + 1 + p.next.length) w k4 q6 q7.out (by omega) (by omega))
      clear hz k1 k2 k3 k4
      have t1 : IntKind.i64.wrap (z + 1) = z + 1 := IntWalk.i64_in _ (by omega)
      have t2 : IntKind.i64.wrap (z + 1 + 1) = z + 1 + 1 := IntWalk.i64_in _ (by omega)
      have n0 : ¬ (y + (p.params.length : Int) < 0) := by omega
      have n1 : ¬ (z < 0) := by omega
      have n2 : (z != z) = false := by simp
      have n3 : (z + 1 != z + 1) = false := by simp
      have n4 : ¬ (z + 1 + 1 + (p.next.length : Int) < 0) := by omega
      have n5 : ¬ (z + 1 + 1 + (p.next.length : Int) + (totLL p.args : Int) < 0) := by omega
      have m0 : (0 : Int) ≤ (m : Int) := Int.natCast_nonneg _
      have m1 : (m : Int) < (L.length : Int) := by omega
      go_wp2_with fail
      refine C1.out.mono ?_
      rintro e w1 ⟨rfl, rfl⟩
      go_wp2_with fail
      refine C2.out.mono ?_
      rintro e w1 ⟨rfl, rfl⟩
      go_wp2_with fail
      refine C3.out.mono ?_
      rintro e w1 ⟨rfl, rfl⟩
      go_wp2_with fail
      refine C4.out.mono ?_
      rintro e w1 ⟨rfl, rfl⟩
      go_wp2_with fail
      go_round
      case rel => exact ⟨m + 1, by omega, by go_num, by rw [HT.out]; congr 1; have := HZ.out; have := HY.out; unfold sizeP; push_cast; omega⟩
      case measure => simp [intOf]; omega
    · obtain rfl : m = L.length := by omega
      rw [List.take_length]
      go_wp2
      go_ret
      exact ⟨rfl, rfl⟩
set_option maxRecDepth 100000 in
set_option maxHeartbeats 4000000 in
theorem markSa_own {F : Nat → Prop} (vp : Value) (S : Sa) (k : Int) (w : World) (h : Ow true 67 partA w F vp S.parts) (hL : PtsOk S.parts) (hk : 0 ≤ k) (hk2 : k ≤ 1000) :
    Calls Tryz.prog 11 #[saV S vp, .int .i64 k] w fun e w' => e = .returned (.int .i64 (k + totP S.parts)) ∧ Ow true 67 partA w' F vp (marksP k S.parts) ∧ Chg F w w' := by
  obtain ⟨A, c, rfl, hc1, hc2⟩ := h.form
  have h := h.bound
  have hB := below_new (w := w) (.cells #[.slice A S.parts.length c, .int .i64 S.values] 28)
  have HC := Lib.hid (markP_own (.slice A S.parts.length c) S.parts k _ (h.below hB) hL hk hk2)
  unfold saV
  go_enter Tryz.func11, Tryz.ntmps11
  go_wp2_with fail
  refine HC.out.mono ?_
  rintro e w1 ⟨rfl, hO, hC⟩
  have hC2 := (Chg.of_below (A := fun q => F q ∧ q < w.heap.size) hB).trans hC
  clear HC hC
  go_wp2
  go_ret
  exact ⟨rfl, hO.mono (fun q hq => hq.1), hC2.mono (fun q hq => hq.1)⟩
set_option maxRecDepth 100000 in
set_option maxHeartbeats 4000000 in
theorem heldSa_calls {F : Nat → Prop} (vp : Value) (L : List Pt) (V k : Int) (w : World) (h : Rp.Rd part w F vp (marksP k L)) (hL : PtsOk L) (hk : 0 ≤ k) (hk2 : k ≤ 1000) :
    Calls Tryz.prog 12 #[.agg #[vp, .int .i64 V], .int .i64 k] w fun e w' => e = .returned (.int .i64 (k + totP L)) ∧ Below w.heap.size w w' := by
  obtain ⟨A, c, rfl, hc1, hc2⟩ := id h
  have hB := below_new (w := w) (.cells #[.slice A (marksP k L).length c, .int .i64 V] 28)
  have HC := Lib.hid (heldP_calls (.slice A (marksP k L).length c) L k _ (h.below hB) hL hk hk2)
  have n0 : ¬ (k + (totP L : Int) < 0) := by omega
  go_enter Tryz.func12, Tryz.ntmps12
  go_wp2_with fail
  refine HC.out.mono ?_
  rintro e w1 ⟨rfl, rfl⟩
  go_wp2
  go_ret
  exact ⟨rfl, hB⟩
end Go.Proofs.YtnfaibenekninaaGreat.L

set_option linter.unusedVariables false
set_option linter.unusedSimpArgs false
namespace Go.Proofs.YtnfaibenekninaaGreat.L
open Go.RowKit
set_option maxHeartbeats 4000000 in
theorem cloneI_calls {F : Nat → Prop} (v : Value) (l : List Int) (w : World) (h : Rp.Rd Rp.int w F v l) (hl : l.length ≤ 1048576) :
    Calls Tryz.prog 66 #[v] w fun e w' => ∃ v', e = .returned v' ∧ Ow true 3 Rp.int w' (fun k => w.heap.size ≤ k) v' l ∧ Below w.heap.size w w' := by
  obtain ⟨A, c, rfl, hlc, hcm, hrow⟩ := rd_int h
  have q22 : ∀ (w : World) (a : Option Addr) (n c n' c' : Nat), (binOp .eql 59 (.slice a n c) (.slice none n' c')).run Tryz.prog w = .ok (.bool a.isNone) w := fun w a n c n' c' => Lib.run_eql_slice_nil w _ _ a n c n' c' Tryz.underlying59
  cases A with
  | none =>
    obtain rfl : l = [] := by rcases hrow with h | ⟨b, o, h, _⟩; exact h; cases h
    go_enter Tryz.func66, Tryz.ntmps66
    go_wp2
    go_ret
    exact ⟨_, rfl, Ow.nil _ _ _ _ _, Below.refl _ _⟩
  | some ad =>
    clear hrow
    have hH := h.below (below_new (w := w) (.cells #[] 3))
    have hB := (below_new (w := w) (.cells #[] 3)).size
    have HE : Ow true 3 Rp.int (w.alloc (.cells #[] 3)) (fun k => w.heap.size ≤ k) (.slice (some ⟨w.heap.size, 0, none⟩) 0 0) [] :=
      ⟨fun _ _ => False, [], World.ownsRow_lit w #[] 0 (Nat.zero_le _) (by unfold maxLen; omega) (by simp), fun k hk => by simp [Value.ownBlock] at hk; omega, fun _ _ h => h.elim, fun _ _ _ _ h => h.elim, fun i x hx => by simp at hx⟩
    go_enter Tryz.func66, Tryz.ntmps66
    go_wp2_with (at_builtin; have _t := HE; refine acc_appendf (r := Rp.int) (e := 3) (B := w.heap.size) (w0 := w) int_flat (by rfl) _ _ 59 (.int .i64 0) 8 (by rfl) Tryz.underlying59 infoInt rfl (by decide) (by omega) (.slice (some ⟨w.heap.size, 0, none⟩) 0 0) (.slice (some ad) l.length c) [] l (by rfl) (by rfl) true HE hH (below_new _) hB (by simp; omega) ?_; intro v1 w1 HO1 HB1 hB1; clear HE)
    go_ret
    exact ⟨_, rfl, HO1, HB1⟩
set_option maxHeartbeats 4000000 in
theorem cloneF_calls {F : Nat → Prop} (v : Value) (l : List Fl) (w : World) (h : Rp.Rd flat w F v l) (hl : l.length ≤ 1048576) :
    Calls Tryz.prog 67 #[v] w fun e w' => ∃ v', e = .returned v' ∧ Ow true 71 flat w' (fun k => w.heap.size ≤ k) v' l ∧ Below w.heap.size w w' := by
  obtain ⟨A, c, rfl, hlc, hcm, hrow⟩ := rd_flat h
  have q22 : ∀ (w : World) (a : Option Addr) (n c n' c' : Nat), (binOp .eql 65 (.slice a n c) (.slice none n' c')).run Tryz.prog w = .ok (.bool a.isNone) w := fun w a n c n' c' => Lib.run_eql_slice_nil w _ _ a n c n' c' Tryz.underlying65
  cases A with
  | none =>
    obtain rfl : l = [] := by rcases hrow with h | ⟨b, o, h, _⟩; exact h; cases h
    go_enter Tryz.func67, Tryz.ntmps67
    go_wp2
    go_ret
    exact ⟨_, rfl, Ow.nil _ _ _ _ _, Below.refl _ _⟩
  | some ad =>
    clear hrow
    have hH := h.below (below_new (w := w) (.cells #[] 71))
    have hB := (below_new (w := w) (.cells #[] 71)).size
    have HE : Ow true 71 flat (w.alloc (.cells #[] 71)) (fun k => w.heap.size ≤ k) (.slice (some ⟨w.heap.size, 0, none⟩) 0 0) [] :=
      ⟨fun _ _ => False, [], World.ownsRow_lit w #[] 0 (Nat.zero_le _) (by unfold maxLen; omega) (by simp), fun k hk => by simp [Value.ownBlock] at hk; omega, fun _ _ h => h.elim, fun _ _ _ _ h => h.elim, fun i x hx => by simp at hx⟩
    go_enter Tryz.func67, Tryz.ntmps67
    go_wp2_with (at_builtin; have _t := HE; refine acc_appendf (r := flat) (e := 71) (B := w.heap.size) (w0 := w) flat_flat (by rfl) _ _ 65 (.agg #[.int .i64 0, .int .i64 0, .int .i64 0, .int .i64 0, .int .i64 0, .int .i64 0]) 48 (by rfl) Tryz.underlying65 infoFlat rfl (by decide) (by omega) (.slice (some ⟨w.heap.size, 0, none⟩) 0 0) (.slice (some ad) l.length c) [] l (by rfl) (by rfl) true HE hH (below_new _) hB (by simp; omega) ?_; intro v1 w1 HO1 HB1 hB1; clear HE)
    go_ret
    exact ⟨_, rfl, HO1, HB1⟩
end Go.Proofs.YtnfaibenekninaaGreat.L

set_option linter.unusedVariables false
namespace Go.Proofs.YtnfaibenekninaaGreat.L
open Go.RowKit
section
variable {P : Program} {ops : Array Oper} {Q : Exit → Act → World → Prop} {md : Region.Mode} {C : World → Prop} {T : List (Nat × (World → Prop))}
/-- What each store leaves true until it comes up. -/
def Till : List (Nat × (World → Prop)) → Array Bool → World → Prop
  | [], _, _ => True
  | c :: r, L, w => (L.getD c.1 false = false → c.2 w) ∧ Till r L w
theorem getD_other {L : Array Bool} {i t : Nat} (h : i ≠ t) : (L.setIfInBounds i true).getD t false = L.getD t false := by
  simp [Array.getD_eq_getD_getElem?, Array.getElem?_setIfInBounds_ne h]
theorem Till.other {L : Array Bool} {i : Nat} {w : World} : ∀ {T : List (Nat × (World → Prop))}, (T.map Prod.fst).all (fun t => t != i) = true → (Till T (L.setIfInBounds i true) w ↔ Till T L w)
  | [], _ => Iff.rfl
  | c :: r, h => by
    simp only [List.map_cons, List.all_cons, Bool.and_eq_true, bne_iff_ne, ne_eq] at h
    unfold Till
    rw [getD_other (fun e => h.1 e.symm), Till.other (T := r) h.2]
theorem Till.get {L : Array Bool} {w : World} {t : Nat} : ∀ {T : List (Nat × (World → Prop))} {k : Nat}, T[k]? = some (t, C) → Till T L w → L.getD t false = false → C w
  | [], _, h, _, _ => by simp at h
  | c :: r, 0, h, hT, hL => by simp at h; subst h; exact hT.1 hL
  | c :: r, k + 1, h, hT, hL => Till.get (T := r) (k := k) (by simpa using h) hT.2 hL
/-- Any order; behind each operation what the stores that have not come up leave true holds. -/
def AnyT (P : Program) (md : Region.Mode) (ops : Array Oper) (Q : Exit → Act → World → Prop) (T : List (Nat × (World → Prop))) : Nat → Array Bool → Act → World → Prop
  | 0, L, a, w => Region.ready md ops L = [] ∧ Q .normal a w
  | n + 1, L, a, w => (Region.ready md ops L = [] → Q .normal a w) ∧
      ∀ i ∈ Region.ready md ops L, wpOp P ops Q i (fun a' w' => Till T (L.setIfInBounds i true) w' ∧ AnyT P md ops Q T n (L.setIfInBounds i true) a' w') a w
theorem anyT_any : ∀ (n : Nat) (L : Array Bool) (a : Act) (w : World), AnyT P md ops Q T n L a w → wpAny P md ops Q n L a w
  | 0, _, _, _, h => h
  | n + 1, _, _, _, h => ⟨h.1, fun i hi => wpOp_mono (fun a' w' k => anyT_any n _ a' w' k.2) (h.2 i hi)⟩
theorem not_ready {L : Array Bool} {i j : Nat} (hw : Region.waitsFor md ops j i = true) (hi : i ∈ Region.ready md ops L) : j ∉ Region.ready md ops L := by
  intro hj
  obtain ⟨oj, hoj, e, he, hb, hon⟩ := Region.waitsFor_spec hw
  obtain ⟨_, oj', hoj', hall⟩ := mem_ready.1 hj
  have he' := hall e (by rw [hoj] at hoj'; cases hoj'; exact he) hb
  have h0 := (mem_ready.1 hi).1
  rw [hon] at he'
  rcases Nat.lt_or_ge i L.size with h | h
  · simp [h] at h0 he'; rw [h0] at he'; cases he'
  · simp [Array.getElem?_eq_none h] at h0
theorem anyT_first {i : Nat} {oi : Oper} {v : Value} (I : Array Bool → Prop) (hI : ∀ L j, I L → i ∈ Region.ready md ops L → j ∈ Region.ready md ops L → j ≠ i → I (L.setIfInBounds j true)) (hIC : ∀ L w, I L → Till T L w → C w)
    (hi : ops[i]? = some oi) (hsel : ∀ (j : Nat) (o : Oper) cs b, ops[j]? = some o → o.op ≠ .select cs b)
    (hQ : ∀ c a w, Q (.panic c) (a.put oi.dst v) w → Q (.panic c) a w) (hT : (T.map Prod.fst).all (fun t => t != i) = true) :
    ∀ (n : Nat) (L : Array Bool) (a : Act) (w : World),
      (∀ j oj, ops[j]? = some oj → j ≠ i → L.getD j true = false → (∀ e ∈ oj.after, Region.binds md e = true → e.on ≠ i) → oi.apart ops oj = true) →
      i ∈ Region.ready md ops L → I L → YieldsIf P ops C oi v a → Till T L w → AnyT P md ops Q T n (L.setIfInBounds i true) (a.put oi.dst v) w → AnyT P md ops Q T (n + 1) L a w := by
  have one : ∀ (L : Array Bool) (a : Act) (w : World) (n : Nat), I L → YieldsIf P ops C oi v a → Till T L w → AnyT P md ops Q T n (L.setIfInBounds i true) (a.put oi.dst v) w →
      wpOp P ops Q i (fun a' w' => Till T (L.setIfInBounds i true) w' ∧ AnyT P md ops Q T n (L.setIfInBounds i true) a' w') a w := fun L a w n hL hy hC H => hy.wpOp hi (hIC L w hL hC) ⟨(Till.other hT).2 hC, H⟩
  intro n
  induction n with
  | zero =>
    intro L a w _ hr hL hy hC H
    refine ⟨fun h => (by rw [h] at hr; cases hr), fun j hj => ?_⟩
    by_cases hji : j = i
    · rw [hji]; exact one L a w 0 hL hy hC H
    · have := ready_mono hj hji
      rw [H.1] at this; cases this
  | succ n ih =>
    intro L a w hfree hr hL hy hC H
    refine ⟨fun h => (by rw [h] at hr; cases hr), fun j hj => ?_⟩
    by_cases hji : j = i
    · rw [hji]; exact one L a w _ hL hy hC H
    · have h1 := H.2 j (ready_mono hj hji)
      obtain ⟨hjun, oj, hoj, hall⟩ := mem_ready.1 hj
      have hnot : ∀ e ∈ oj.after, Region.binds md e = true → e.on ≠ i := fun e he hb heq => by
        have hwj : Region.waitsFor md ops j i = true := by
          unfold Region.waitsFor
          rw [hoj]
          exact Array.any_eq_true'.2 ⟨e, he, by simp [hb, heq]⟩
        exact not_ready hwj hr hj
      have h2 := wpOp_putIf hoj (hfree j oj hoj hji hjun hnot) (fun cs b => hsel i oi cs b hi) (fun cs b => hsel j oj cs b hoj) hQ hy h1
      have hfree2 : ∀ k ok, ops[k]? = some ok → k ≠ i → (L.setIfInBounds j true).getD k true = false → (∀ e ∈ ok.after, Region.binds md e = true → e.on ≠ i) → oi.apart ops ok = true := fun k ok hk hki hun hno => by
        refine hfree k ok hk hki ?_ hno
        by_cases hjk : j = k
        · rw [← hjk]; exact hjun
        · rwa [getD_set_ne true hjk] at hun
      refine wpOp_mono (fun a' w' h3 => ?_) h2
      have hC3 : Till T (L.setIfInBounds j true) w' := (Till.other hT).1 (by rw [Array.setIfInBounds_comm _ _ hji]; exact h3.2.1)
      refine ⟨hC3, ih (L.setIfInBounds j true) a' w' hfree2 (ready_mono hr (Ne.symm hji)) (hI L j hL hr hj hji) h3.1 hC3 ?_⟩
      rw [Array.setIfInBounds_comm _ _ hji]
      exact h3.2.2
/-- Number i is taken first: nothing but store t, which waits for it, changes what it reads. -/
theorem anyT_take {i k t : Nat} {oi : Oper} {v : Value} {n : Nat} {L : Array Bool} {a : Act} {w : World} (hk : T[k]? = some (t, C)) (hi : ops[i]? = some oi)
    (hs : Region.noSelect ops = true) (hf : Region.free md ops L i = true) (hr : ((Region.ready md ops L).contains i && (Region.waitsFor md ops t i && (!L.getD t false && (T.map Prod.fst).all (fun t => t != i)))) = true)
    (hQ : ∀ c a w, Q (.panic c) (a.put oi.dst v) w → Q (.panic c) a w) (hy : YieldsIf P ops C oi v a) (hC : Till T L w)
    (h : AnyT P md ops Q T n (L.setIfInBounds i true) (a.put oi.dst v) w) : AnyT P md ops Q T (n + 1) L a w := by
  simp only [Bool.and_eq_true, Bool.not_eq_true'] at hr
  exact anyT_first (fun L => L.getD t false = false) (fun L j hL hri hrj _ => (getD_other (fun e => not_ready hr.2.1 hri (by rw [← e]; exact hrj))).trans hL) (fun L w hL hT => hT.get hk hL) hi (Region.noSelect_spec hs) hQ hr.2.2.2 n L a w (Region.free_spec hi hf) (by simpa using hr.1) hr.2.2.1 hy hC h
/-- Number i, whose value no world changes, is taken first. -/
theorem anyT_pure {i : Nat} {oi : Oper} {v : Value} {n : Nat} {L : Array Bool} {a : Act} {w : World} (hi : ops[i]? = some oi)
    (hs : Region.noSelect ops = true) (hf : Region.free md ops L i = true) (hr : ((Region.ready md ops L).contains i && (T.map Prod.fst).all (fun t => t != i)) = true)
    (hQ : ∀ c a w, Q (.panic c) (a.put oi.dst v) w → Q (.panic c) a w) (hy : YieldsIf P ops (fun _ => True) oi v a) (hC : Till T L w)
    (h : AnyT P md ops Q T n (L.setIfInBounds i true) (a.put oi.dst v) w) : AnyT P md ops Q T (n + 1) L a w := by
  simp only [Bool.and_eq_true] at hr
  exact anyT_first (fun _ => True) (fun _ _ _ _ _ _ => trivial) (fun _ _ _ _ => trivial) hi (Region.noSelect_spec hs) hQ hr.2 n L a w (Region.free_spec hi hf) (by simpa using hr.1) trivial hy hC h
/-- The operations of rs may come up next. -/
def AllT (P : Program) (md : Region.Mode) (ops : Array Oper) (Q : Exit → Act → World → Prop) (T : List (Nat × (World → Prop))) (n : Nat) (L : Array Bool) (a : Act) (w : World) (rs : List Nat) : Prop :=
  ∀ i ∈ rs, wpOp P ops Q i (fun a' w' => Till T (L.setIfInBounds i true) w' ∧ AnyT P md ops Q T n (L.setIfInBounds i true) a' w') a w
theorem AllT.nil {n : Nat} {L : Array Bool} {a : Act} {w : World} : AllT P md ops Q T n L a w [] := fun _ h => by cases h
theorem AllT.cons {n : Nat} {L : Array Bool} {a : Act} {w : World} {i : Nat} {o : Oper} {rs : List Nat} (ho : ops[i]? = some o)
    (h : ∀ K : Act → World → Prop, Hid (∀ a w, Till T (L.setIfInBounds i true) w → (Till T (L.setIfInBounds i true) w → AnyT P md ops Q T n (L.setIfInBounds i true) a w) → K a w) → if Region.wanted o (yielded ops a.tmps) = true then Oper.wp P o a w K Q else K (a.put o.dst undef) w)
    (hs : AllT P md ops Q T n L a w rs) : AllT P md ops Q T n L a w (i :: rs) := fun j hj => by
  rcases List.mem_cons.1 hj with rfl | hj
  · exact wpOp_step ho (fun K hK => h K (Lib.hid (fun a w hC hW => hK a w ⟨hC, hW hC⟩)))
  · exact hs j hj
theorem anyT_ready {rs : List Nat} {n : Nat} {L : Array Bool} {a : Act} {w : World} (hr : Region.ready md ops L = rs) (hne : rs ≠ [])
    (h : AllT P md ops Q T n L a w rs) : AnyT P md ops Q T (n + 1) L a w := ⟨fun h0 => absurd (hr ▸ h0) hne, hr ▸ h⟩
theorem anyT_done {L : Array Bool} {a : Act} {w : World} (hr : Region.ready md ops L = []) (h : Q .normal a w) : ∀ n, AnyT P md ops Q T n L a w
  | 0 => ⟨hr, h⟩
  | _ + 1 => ⟨fun _ => h, by rw [hr]; simp⟩
theorem anyT_region (T : List (Nat × (World → Prop))) {id : Nat} {a : Act} {w : World} (hm : P.follows .mixedOrders = true) (hC : Till T (Array.replicate ops.size false) w.drew)
    (h : Till T (Array.replicate ops.size false) w.drew → AnyT P .any ops Q T ops.size (Array.replicate ops.size false) a w.drew) : (Code.region id ops true).wp P Q a w :=
  wp_region_any hm (anyT_any _ _ _ _ (h hC))
end
end Go.Proofs.YtnfaibenekninaaGreat.L

set_option linter.unusedVariables false
set_option linter.unusedSimpArgs false
namespace Go.Proofs.YtnfaibenekninaaGreat.L
open Go.RowKit
theorem alloc_at {w : World} {o : Obj} {k : Nat} (h : k = w.heap.size) : (w.alloc o).heap[k]? = some o := by subst h; exact heap_alloc_new w o
theorem alloc_old {w : World} {o o' : Obj} {k : Nat} (h : w.heap[k]? = some o') : (w.alloc o).heap[k]? = some o' := blk_alloc h o
/-- The beginning of a copy: its variables, and the row of its parts. -/
structure CloneSt (w W : World) (o1 : Obj) (ob mb n : Nat) (V : Int) : Prop where
  bw : Below w.heap.size w W
  s0 : W.heap[w.heap.size]? = some o1
  r0 : W.heap[w.heap.size + 1]? = some (.cells #[.slice none 0 0, .int .i64 0] 28 (0, 0))
  o0 : W.heap[ob]? = some (.cells #[.slice (some ⟨mb, 0, none⟩) n n, .int .i64 V] 28 (0, 0))
  ow : Ow true 67 partA W (fun q => q = mb) (.slice (some ⟨mb, 0, none⟩) n n) (List.replicate n zPt)
  ne : ob ≠ mb ∧ w.heap.size + 2 ≤ ob ∧ w.heap.size + 2 ≤ mb
theorem cloneStA {w : World} {o1 : Obj} {n : Nat} {V : Int} (hn : n ≤ 1048576) : CloneSt w ((((w.alloc o1).alloc (.cells #[.slice none 0 0, .int .i64 0] 28)).alloc (.cells (madeCells #[.slice none 0 0, .slice none 0 0, .int .i64 0, .int .i64 0, .slice none 0 0, .slice none 0 0] (n * 6)) 67)).alloc (.cells #[.slice (some ⟨w.heap.size + 1 + 1, 0, none⟩) n n, .int .i64 V] 28)).drew o1 (w.heap.size + 1 + 1 + 1) (w.heap.size + 1 + 1) n V := by
  have hO := ow_alloc (e := 67) (r := partA) (n := n) ((w.alloc o1).alloc (.cells #[.slice none 0 0, .int .i64 0] 28)) (by omega) rfl (by decide) zPt_mk
  have e2 : ((w.alloc o1).alloc (.cells #[.slice none 0 0, .int .i64 0] 28)).heap.size = w.heap.size + 1 + 1 := by simp
  rw [e2] at hO
  refine ⟨below_drew (below_then (below_then (below_then (below_new _) (below_new _)) (below_new _)) (below_new _)), alloc_old (alloc_old (alloc_old (alloc_at rfl))), alloc_old (alloc_old (alloc_at (by simp))), alloc_at (by simp), (hO.below (below_new _)).move (w' := World.drew _) (fun _ _ _ => rfl), by omega, by omega, by omega⟩
theorem cloneStB {w : World} {o1 : Obj} {n : Nat} {V : Int} (hn : n ≤ 1048576) : CloneSt w ((((w.alloc o1).alloc (.cells #[.slice none 0 0, .int .i64 0] 28)).alloc (.cells #[.slice (some ⟨w.heap.size + 1 + 1 + 1, 0, none⟩) n n, .int .i64 V] 28)).alloc (.cells (madeCells #[.slice none 0 0, .slice none 0 0, .int .i64 0, .int .i64 0, .slice none 0 0, .slice none 0 0] (n * 6)) 67)).drew o1 (w.heap.size + 1 + 1) (w.heap.size + 1 + 1 + 1) n V := by
  have hO := ow_alloc (e := 67) (r := partA) (n := n) (((w.alloc o1).alloc (.cells #[.slice none 0 0, .int .i64 0] 28)).alloc (.cells #[.slice (some ⟨w.heap.size + 1 + 1 + 1, 0, none⟩) n n, .int .i64 V] 28)) (by omega) rfl (by decide) zPt_mk
  have e2 : (((w.alloc o1).alloc (.cells #[.slice none 0 0, .int .i64 0] 28)).alloc (.cells #[.slice (some ⟨w.heap.size + 1 + 1 + 1, 0, none⟩) n n, .int .i64 V] 28)).heap.size = w.heap.size + 1 + 1 + 1 := by simp
  rw [e2] at hO
  refine ⟨below_drew (below_then (below_then (below_then (below_new _) (below_new _)) (below_new _)) (below_new _)), alloc_old (alloc_old (alloc_old (alloc_at rfl))), alloc_old (alloc_old (alloc_at (by simp))), alloc_old (alloc_at (by simp)), hO.move (w' := World.drew _) (fun _ _ _ => rfl), by omega, by omega, by omega⟩
/-- A part's variable, with its lists copied but for its args. -/
structure ClonePt (wo wx : World) (p : Pt) (va : Value) : Prop where
  bw : Below wo.heap.size wo wx
  ex : ∃ (v0 v1 v4 : Value) (G0 G1 G2 : Nat → Prop), wx.heap[wo.heap.size]? = some (.cells #[v0, v1, .int .i64 p.go, .int .i64 p.test, v4, va] 67 (0, 0)) ∧ Ow true 3 Rp.int wx G0 v0 p.params ∧ Ow true 71 flat wx G1 v1 p.code ∧ Ow true 3 Rp.int wx G2 v4 p.next ∧
    (∀ q, G0 q → wo.heap.size < q ∧ q < wx.heap.size) ∧ (∀ q, G1 q → wo.heap.size < q ∧ q < wx.heap.size) ∧ (∀ q, G2 q → wo.heap.size < q ∧ q < wx.heap.size) ∧ (∀ q, G0 q → ¬ G1 q) ∧ (∀ q, G0 q → ¬ G2 q) ∧ (∀ q, G1 q → ¬ G2 q)
set_option maxRecDepth 100000 in
set_option maxHeartbeats 8000000 in
theorem cloneSsa_calls {F : Nat → Prop} (s : Sa) (v : Value) (w : World) (hs : Rp.Rd part w F v s.parts) (hx : SaLim s) :
    Calls Tryz.prog 26 #[saV s v] w fun e w' => ∃ v', e = .returned (saV s v') ∧ Ow true 67 partA w' (fun q => w.heap.size ≤ q) v' s.parts ∧ Below w.heap.size w w' := by
  obtain ⟨A, c, rfl, hlc, hcm, hrow⟩ := rd_part hs
  have hl := hx.1
  have HX := Lib.hid hx.2
  clear hx
  unfold saV
  have hmk := mk_all Tryz.underlying26 infoPart s.parts.length (by omega) (by omega)
  go_enter Tryz.func26, Tryz.ntmps26
  go_upto_region 1 with fail
  go_cut [3] from 9 to 15 (fun s3 wx => ∃ ob mb : Nat, s3 = .pointer (some ⟨ob, 0, none⟩) ∧ CloneSt w wx (.cells #[.slice A s.parts.length c, .int .i64 s.values] 28 (0, 0)) ob mb s.parts.length s.values)
  case first =>
    go_region
    all_goals (go_wp2_with fail; go_meet; exact ⟨_, _, rfl, by first | exact cloneStA hl | exact cloneStB hl⟩)
  case rest =>
    obtain ⟨ob, mb, rfl, HS⟩ := hcut
    clear hmk
    rename World => W
    obtain ⟨x1, _⟩ := cell_of_block HS.s0
    have x10 : W.cell? ⟨w.heap.size, 0, none⟩ = some (.slice A s.parts.length c) := (x1 0).trans rfl
    clear x1
    go_wp2_with fail
    clear x10
    go_loopw [19] (fun i wr => ∃ k : Nat, k ≤ s.parts.length ∧ i = .int .i64 k ∧ Below w.heap.size w wr ∧ wr.heap[w.heap.size + 1]? = some (.cells #[.slice none 0 0, .int .i64 0] 28 (0, 0)) ∧ wr.heap[ob]? = some (.cells #[.slice (some ⟨mb, 0, none⟩) s.parts.length s.parts.length, .int .i64 s.values] 28 (0, 0)) ∧ Ow true 67 partA wr (fun q => w.heap.size + 2 ≤ q ∧ q ≠ ob) (.slice (some ⟨mb, 0, none⟩) s.parts.length s.parts.length) (s.parts.take k ++ List.replicate (s.parts.length - k) zPt)) (fun i _ => s.parts.length - (intOf i).toNat)
    case atStart => exact ⟨0, Nat.zero_le _, rfl, HS.bw, HS.r0, HS.o0, by have h := HS.ow; have h2 := HS.ne; simpa using h.mono (G := fun q => w.heap.size + 2 ≤ q ∧ q ≠ ob) (fun q hq => by have hq : q = mb := hq; omega)⟩
    case round =>
      have hne := HS.ne
      clear HS
      obtain ⟨k, hk, rfl, HB, hr, ho, HO⟩ := hrel
      rename World => wo
      by_cases hkt : k < s.parts.length
      · rcases hrow with hnil | ⟨b, o, rfl, hb, hcell⟩
        · rw [hnil] at hkt; simp at hkt
        obtain ⟨vp, vc, vn, va, hp, h1, h2, h3, h4⟩ := hcell k hkt
        have hlim := HX.out _ (List.getElem_mem hkt)
        have hset : Hid ((s.parts.take k ++ List.replicate (s.parts.length - k) zPt).set k s.parts[k] = s.parts.take (k + 1) ++ List.replicate (s.parts.length - (k + 1)) zPt) := Lib.hid (set_take_rep _ hkt)
        have hlL : (s.parts.take k ++ List.replicate (s.parts.length - k) zPt).length = s.parts.length := by simp; omega
        have hp := partAt_below hp HB
        have h1 := h1.below HB
        have h2 := h2.below HB
        have h3 := h3.below HB
        have h4 := h4.below HB
        have m0 : (0 : Int) ≤ (k : Int) := Int.natCast_nonneg _
        have m1 : (k : Int) < (s.parts.length : Int) := by omega
        clear hcell
        generalize s.parts[k] = p at *
        generalize s.parts.take k ++ List.replicate (s.parts.length - k) zPt = LL at *
        replace hlL := Lib.hid hlL
        obtain ⟨l1, l2, l3, l4, l5⟩ := hlim
        obtain ⟨q0, q1, q2, q3, q4, q5⟩ := hp
        obtain ⟨A1, c1, rfl, _⟩ := id h1
        obtain ⟨A2, c2, rfl, _⟩ := id h2
        obtain ⟨A3, c3, rfl, _⟩ := id h3
        obtain ⟨A4, c4, rfl, _⟩ := id h4
        have hbx := below_new (w := wo) (.cells #[.slice A1 p.params.length c1, .slice A2 p.code.length c2, .int .i64 p.go, .int .i64 p.test, .slice A3 p.next.length c3, .slice A4 p.args.length c4] 67)
        have px := heap_alloc_new wo (.cells #[.slice A1 p.params.length c1, .slice A2 p.code.length c2, .int .i64 p.go, .int .i64 p.test, .slice A3 p.next.length c3, .slice A4 p.args.length c4] 67)
        have hxs : (wo.alloc (.cells #[.slice A1 p.params.length c1, .slice A2 p.code.length c2, .int .i64 p.go, .int .i64 p.test, .slice A3 p.next.length c3, .slice A4 p.args.length c4] 67)).heap.size = wo.heap.size + 1 := by simp
        go_upto_region 5 with fail
        clear q0 q1 q2 q3 q4 q5
        generalize wo.alloc (.cells #[.slice A1 p.params.length c1, .slice A2 p.code.length c2, .int .i64 p.go, .int .i64 p.test, .slice A3 p.next.length c3, .slice A4 p.args.length c4] 67) = W1 at *
        have C1 := Lib.hid (fun W (hW : Below W1.heap.size W1 W) => cloneI_calls _ p.params W ((h1.below hbx).below hW) l1)
        have C2 := Lib.hid (fun W (hW : Below W1.heap.size W1 W) => cloneF_calls _ p.code W ((h2.below hbx).below hW) l2)
        have C3 := Lib.hid (fun W (hW : Below W1.heap.size W1 W) => cloneI_calls _ p.next W ((h3.below hbx).below hW) l3)
        have h4x := Lib.hid (h4.below hbx)
        have hWd : Below W1.heap.size W1 W1.drew := below_drew (Below.refl _ _)
        obtain ⟨y1, y2⟩ := cell_of_block px
        have y10 : W1.cell? ⟨wo.heap.size, 0, none⟩ = some (.slice A1 p.params.length c1) := (y1 0).trans rfl
        have y11 : W1.cell? ⟨wo.heap.size, 1, none⟩ = some (.slice A2 p.code.length c2) := (y1 1).trans rfl
        have y14 : W1.cell? ⟨wo.heap.size, 4, none⟩ = some (.slice A3 p.next.length c3) := (y1 4).trans rfl
        clear y1 y2
        go_cut [] from 20 to 61 (fun wx => ClonePt wo wx p (.slice A4 p.args.length c4))
        case first =>
          refine anyT_region [(10, fun w' => w'.cell? ⟨wo.heap.size, 0, none⟩ = some (.slice A1 p.params.length c1) ∧ w'.cell? ⟨wo.heap.size, 1, none⟩ = some (.slice A2 p.code.length c2) ∧ w'.cell? ⟨wo.heap.size, 4, none⟩ = some (.slice A3 p.next.length c3))] (by kernel_rfl) ⟨fun _ => ⟨y10, y11, y14⟩, trivial⟩ (fun hC0 => ?_)
          refine anyT_pure (i := 0) (v := ?_) rfl (by kernel_rfl) (by kernel_rfl) (by kernel_rfl) (fun _ _ _ h => h) (Or.inl ⟨by rfl, ?_⟩) (by assumption) ?_
          rotate_left 1
          focus ((intro w hSw; (try dsimp only at hSw); go_simp); try with_reducible rfl)
          try simp only [Act.put, Array.getInternal_eq_getElem, List.getElem_toArray, List.getElem_cons_zero, List.getElem_cons_succ, List.setIfInBounds_toArray, List.set_cons_zero, List.set_cons_succ]
          refine anyT_pure (i := 3) (v := ?_) rfl (by kernel_rfl) (by kernel_rfl) (by kernel_rfl) (fun _ _ _ h => h) (Or.inl ⟨by rfl, ?_⟩) (by assumption) ?_
          rotate_left 1
          focus ((intro w hSw; (try dsimp only at hSw); go_simp); try with_reducible rfl)
          try simp only [Act.put, Array.getInternal_eq_getElem, List.getElem_toArray, List.getElem_cons_zero, List.getElem_cons_succ, List.setIfInBounds_toArray, List.set_cons_zero, List.set_cons_succ]
          refine anyT_pure (i := 6) (v := ?_) rfl (by kernel_rfl) (by kernel_rfl) (by kernel_rfl) (fun _ _ _ h => h) (Or.inl ⟨by rfl, ?_⟩) (by assumption) ?_
          rotate_left 1
          focus ((intro w hSw; (try dsimp only at hSw); go_simp); try with_reducible rfl)
          try simp only [Act.put, Array.getInternal_eq_getElem, List.getElem_toArray, List.getElem_cons_zero, List.getElem_cons_succ, List.setIfInBounds_toArray, List.set_cons_zero, List.set_cons_succ]
          refine anyT_take (k := 0) (i := 1) (v := ?_) rfl rfl (by kernel_rfl) (by kernel_rfl) (by kernel_rfl) (fun _ _ _ h => h) (Or.inl ⟨by rfl, ?_⟩) (by assumption) ?_
          rotate_left 1
          focus ((intro w hSw; (try dsimp only at hSw); go_simp); try with_reducible rfl)
          try simp only [Act.put, Array.getInternal_eq_getElem, List.getElem_toArray, List.getElem_cons_zero, List.getElem_cons_succ, List.setIfInBounds_toArray, List.set_cons_zero, List.set_cons_succ]
          refine anyT_take (k := 0) (i := 4) (v := ?_) rfl rfl (by kernel_rfl) (by kernel_rfl) (by kernel_rfl) (fun _ _ _ h => h) (Or.inl ⟨by rfl, ?_⟩) (by assumption) ?_
          rotate_left 1
          focus ((intro w hSw; (try dsimp only at hSw); go_simp); try with_reducible rfl)
          try simp only [Act.put, Array.getInternal_eq_getElem, List.getElem_toArray, List.getElem_cons_zero, List.getElem_cons_succ, List.setIfInBounds_toArray, List.set_cons_zero, List.set_cons_succ]
          refine anyT_take (k := 0) (i := 7) (v := ?_) rfl rfl (by kernel_rfl) (by kernel_rfl) (by kernel_rfl) (fun _ _ _ h => h) (Or.inl ⟨by rfl, ?_⟩) (by assumption) ?_
          rotate_left 1
          focus ((intro w hSw; (try dsimp only at hSw); go_simp); try with_reducible rfl)
          try simp only [Act.put, Array.getInternal_eq_getElem, List.getElem_toArray, List.getElem_cons_zero, List.getElem_cons_succ, List.setIfInBounds_toArray, List.set_cons_zero, List.set_cons_succ]
          clear y10 y11 y14
          refine anyT_ready (rs := [2]) (by kernel_rfl) (by simp) ?_
          refine AllT.cons rfl (fun K1 hK1 => ?_) AllT.nil
          try simp only [Array.getInternal_eq_getElem, List.getElem_toArray, List.getElem_cons_zero, List.getElem_cons_succ]
          go_simp
          go_at_call 66
          refine (C1.out _ hWd).mono ?_
          rintro e w1 ⟨v1, rfl, hO1, hb1⟩
          have hB1 := below_then hWd hb1
          obtain ⟨B1, d1, rfl, _, _⟩ := hO1.form
          have hO1 := hO1.bound
          go_wp2_with fail
          have px1 := blk_below px hB1
          obtain ⟨z0, _⟩ := cell_of_block px1
          refine hK1.out _ _ ⟨fun _ => ⟨(z0 0).trans rfl, (z0 1).trans rfl, (z0 4).trans rfl⟩, trivial⟩ (fun hT => ?_)
          clear hK1 K1 z0 C1
          try simp only [Act.put, List.setIfInBounds_toArray, List.set_cons_zero, List.set_cons_succ]
          refine anyT_pure (i := 9) (v := ?_) rfl (by kernel_rfl) (by kernel_rfl) (by kernel_rfl) (fun _ _ _ h => h) (Or.inl ⟨by rfl, ?_⟩) (by assumption) ?_
          rotate_left 1
          focus ((intro w hSw; (try dsimp only at hSw); go_simp); try with_reducible rfl)
          try simp only [Act.put, Array.getInternal_eq_getElem, List.getElem_toArray, List.getElem_cons_zero, List.getElem_cons_succ, List.setIfInBounds_toArray, List.set_cons_zero, List.set_cons_succ]
          refine anyT_ready (rs := [5]) (by kernel_rfl) (by simp) ?_
          refine AllT.cons rfl (fun K1 hK1 => ?_) AllT.nil
          try simp only [Array.getInternal_eq_getElem, List.getElem_toArray, List.getElem_cons_zero, List.getElem_cons_succ]
          go_simp
          go_at_call 67
          refine (C2.out _ hB1).mono ?_
          rintro e w2 ⟨v2, rfl, hO2, hb2⟩
          have hB2 := below_then hB1 hb2
          obtain ⟨B2, d2, rfl, _, _⟩ := hO2.form
          have hO2 := hO2.bound
          go_wp2_with fail
          have px2 := blk_below px1 hb2
          obtain ⟨z0, _⟩ := cell_of_block px2
          refine hK1.out _ _ ⟨fun _ => ⟨(z0 0).trans rfl, (z0 1).trans rfl, (z0 4).trans rfl⟩, trivial⟩ (fun hT => ?_)
          clear hK1 K1 z0 C2
          try simp only [Act.put, List.setIfInBounds_toArray, List.set_cons_zero, List.set_cons_succ]
          refine anyT_ready (rs := [8]) (by kernel_rfl) (by simp) ?_
          refine AllT.cons rfl (fun K1 hK1 => ?_) AllT.nil
          try simp only [Array.getInternal_eq_getElem, List.getElem_toArray, List.getElem_cons_zero, List.getElem_cons_succ]
          go_simp
          go_at_call 66
          refine (C3.out _ hB2).mono ?_
          rintro e w3 ⟨v3, rfl, hO3, hb3⟩
          have hB3 := below_then hB2 hb3
          obtain ⟨B3, d3, rfl, _, _⟩ := hO3.form
          have hO3 := hO3.bound
          go_wp2_with fail
          have px3 := blk_below px2 hb3
          obtain ⟨z0, z1⟩ := cell_of_block px3
          refine hK1.out _ _ ⟨fun _ => ⟨(z0 0).trans rfl, (z0 1).trans rfl, (z0 4).trans rfl⟩, trivial⟩ (fun hT => ?_)
          have z10 : w3.cell? ⟨wo.heap.size, 0, none⟩ = some (.slice A1 p.params.length c1) := (z0 0).trans rfl
          have z20 := z1 0
          clear hK1 K1 z0 z1 C3
          try simp only [Act.put, List.setIfInBounds_toArray, List.set_cons_zero, List.set_cons_succ]
          have p4 := blk_put px3 0 (.slice B1 p.params.length d1)
          have p5 := blk_put p4 1 (.slice B2 p.code.length d2)
          have p6 := Lib.hid (blk_put p5 4 (.slice B3 p.next.length d3))
          refine anyT_ready (rs := [10]) (by kernel_rfl) (by simp) ?_
          refine AllT.cons rfl (fun K1 hK1 => ?_) AllT.nil
          try simp only [Array.getInternal_eq_getElem, List.getElem_toArray, List.getElem_cons_zero, List.getElem_cons_succ]
          go_simp
          refine hK1.out _ _ ⟨fun h => absurd h (by simp), trivial⟩ (fun hT => ?_)
          clear hK1 K1
          try simp only [Act.put, List.setIfInBounds_toArray, List.set_cons_zero, List.set_cons_succ]
          obtain ⟨z0, z1⟩ := cell_of_block p4
          have z11 : (w3.setCell ⟨wo.heap.size, 0, none⟩ (.slice B1 p.params.length d1)).cell? ⟨wo.heap.size, 1, none⟩ = some (.slice A2 p.code.length c2) := (z0 1).trans rfl
          have z21 := z1 1
          clear z0 z1
          refine anyT_pure (i := 11) (v := ?_) rfl (by kernel_rfl) (by kernel_rfl) (by kernel_rfl) (fun _ _ _ h => h) (Or.inl ⟨by rfl, ?_⟩) (by assumption) ?_
          rotate_left 1
          focus ((intro w hSw; (try dsimp only at hSw); go_simp); try with_reducible rfl)
          try simp only [Act.put, Array.getInternal_eq_getElem, List.getElem_toArray, List.getElem_cons_zero, List.getElem_cons_succ, List.setIfInBounds_toArray, List.set_cons_zero, List.set_cons_succ]
          refine anyT_ready (rs := [12]) (by kernel_rfl) (by simp) ?_
          refine AllT.cons rfl (fun K1 hK1 => ?_) AllT.nil
          try simp only [Array.getInternal_eq_getElem, List.getElem_toArray, List.getElem_cons_zero, List.getElem_cons_succ]
          go_simp
          refine hK1.out _ _ ⟨fun h => absurd h (by simp), trivial⟩ (fun hT => ?_)
          clear hK1 K1
          try simp only [Act.put, List.setIfInBounds_toArray, List.set_cons_zero, List.set_cons_succ]
          obtain ⟨z0, z1⟩ := cell_of_block p5
          have z14 : ((w3.setCell ⟨wo.heap.size, 0, none⟩ (.slice B1 p.params.length d1)).setCell ⟨wo.heap.size, 1, none⟩ (.slice B2 p.code.length d2)).cell? ⟨wo.heap.size, 4, none⟩ = some (.slice A3 p.next.length c3) := (z0 4).trans rfl
          have z24 := z1 4
          clear z0 z1
          refine anyT_pure (i := 13) (v := ?_) rfl (by kernel_rfl) (by kernel_rfl) (by kernel_rfl) (fun _ _ _ h => h) (Or.inl ⟨by rfl, ?_⟩) (by assumption) ?_
          rotate_left 1
          focus ((intro w hSw; (try dsimp only at hSw); go_simp); try with_reducible rfl)
          try simp only [Act.put, Array.getInternal_eq_getElem, List.getElem_toArray, List.getElem_cons_zero, List.getElem_cons_succ, List.setIfInBounds_toArray, List.set_cons_zero, List.set_cons_succ]
          refine anyT_ready (rs := [14]) (by kernel_rfl) (by simp) ?_
          refine AllT.cons rfl (fun K1 hK1 => ?_) AllT.nil
          try simp only [Array.getInternal_eq_getElem, List.getElem_toArray, List.getElem_cons_zero, List.getElem_cons_succ]
          go_simp
          refine hK1.out _ _ ⟨fun h => absurd h (by simp), trivial⟩ (fun hT => ?_)
          clear hK1 K1
          try simp only [Act.put, List.setIfInBounds_toArray, List.set_cons_zero, List.set_cons_succ]
          refine anyT_done (by kernel_rfl) ?_ _
          clear p4 p5 z10 z11 z14 z20 z21 z24
          go_wp2_with fail
          go_meet
          have hz1 := hb1.size
          have hz2 := hb2.size
          have hz3 := hb3.size
          have hzd : W1.drew.heap.size = W1.heap.size := rfl
          have hC := (Chg.set (A := fun q => q = wo.heap.size) (w := w3) (b := wo.heap.size) (o := 0) (u := .slice B1 p.params.length d1) rfl).trans ((Chg.set (A := fun q => q = wo.heap.size) (b := wo.heap.size) (o := 1) (u := .slice B2 p.code.length d2) rfl).trans (Chg.set (A := fun q => q = wo.heap.size) (b := wo.heap.size) (o := 4) (u := .slice B3 p.next.length d3) rfl))
          have hzc := hC.size
          refine ⟨hC.to_below (below_then hbx hB3) (by omega) (fun q hq => by have hq : q = wo.heap.size := hq; omega), _, _, _, _, _, _, p6.out, ((hO1.below hb2).below hb3).move (hC.same (fun q hq h => by have h : q = wo.heap.size := h; have := hq.1; omega)), (hO2.below hb3).move (hC.same (fun q hq h => by have h : q = wo.heap.size := h; have := hq.1; omega)), hO3.move (hC.same (fun q hq h => by have h : q = wo.heap.size := h; have := hq.1; omega)), fun q hq => by have h1 := hq.1; have h2 := hq.2; omega, fun q hq => by have h1 := hq.1; have h2 := hq.2; omega, fun q hq => by have h1 := hq.1; have h2 := hq.2; omega, fun q hq hq2 => by have h1 := hq.2; have h2 := hq2.1; omega, fun q hq hq2 => by have h1 := hq.2; have h2 := hq2.1; omega, fun q hq hq2 => by have h1 := hq.2; have h2 := hq2.1; omega⟩
        case rest =>
          rename World => wc
          obtain ⟨hbw, v0, v1, v4, G0, G1, G2, px, k0, k1, k2, g0, g1, g2, d01, d02, d12⟩ := hcut
          have h4 := h4.below hbw
          have hlto := blk_lt ho
          have hltr := blk_lt hr
          have HBc := below_then HB hbw
          have hr := blk_below hr hbw
          have ho := blk_below ho hbw
          have HO := HO.bound.below hbw
          have hszc := hbw.size
          have hszo := HB.size
          have hpl := blk_lt px
          clear C1 C2 C3 h4x hWd y10 y11 y14 hbx h1 h2 h3 HB hbw
          obtain ⟨Aa, ca, he, _, _, hrA⟩ := rd_ints h4
          injection he with he1 _ he3
          subst he1
          subst he3
          have hmk := mk_all Tryz.underlying64 infoInts p.args.length (by omega) (by omega)
          have hOa := ow_alloc1 (e := 59) (n := p.args.length) (r := Rp.ow true 3 Rp.int) (z := .slice none 0 0) (x0 := []) wc (by omega) rfl (fun w => ⟨_, rfl, Ow.nil _ _ _ _ _⟩)
          have hBa := below_new (w := wc) (.cells (madeCells #[.slice none 0 0] p.args.length) 59)
          have hza : wc.heap.size < (wc.alloc (.cells (madeCells #[.slice none 0 0] p.args.length) 59)).heap.size := by simp
          obtain ⟨y1, _⟩ := cell_of_block px
          have y15 : wc.cell? ⟨wo.heap.size, 5, none⟩ = some (.slice A4 p.args.length c4) := (y1 5).trans rfl
          have y16 := cell_below hBa y15
          clear y1
          have HCl := Lib.hid (fun u a W G (h : Rp.Rd Rp.int W G u a) hl => cloneI_calls u a W h hl)
          go_wp2_with fail
          clear y15 y16 hmk
          generalize wc.alloc (.cells (madeCells #[.slice none 0 0] p.args.length) 59) = W2 at *
          have hO0 : Ow true 59 (Rp.ow true 3 Rp.int) W2 (fun q => wc.heap.size ≤ q) (.slice (some ⟨wc.heap.size, 0, none⟩) p.args.length p.args.length) (p.args.take 0 ++ List.replicate (p.args.length - 0) []) := by simpa using hOa
          go_loopw [43] (fun i wr => ∃ j : Nat, j ≤ p.args.length ∧ i = .int .i64 j ∧ Ow true 59 (Rp.ow true 3 Rp.int) wr (fun q => wc.heap.size ≤ q) (.slice (some ⟨wc.heap.size, 0, none⟩) p.args.length p.args.length) (p.args.take j ++ List.replicate (p.args.length - j) []) ∧ Below wc.heap.size wc wr ∧ wc.heap.size < wr.heap.size) (fun i _ => p.args.length - (intOf i).toNat)
          case atStart => exact ⟨0, Nat.zero_le _, rfl, hO0, hBa, hza⟩
          case round =>
            clear hOa hO0 hBa hza
            obtain ⟨j, hj, rfl, HOa, HB, hz⟩ := hrel
            rename World => wi
            by_cases hjt : j < p.args.length
            · rcases hrA with hnil | ⟨ba, oa, rfl, hba, hca⟩
              · rw [hnil] at hjt; simp at hjt
              obtain ⟨u, cu, hu⟩ := hca j hjt
              have cu := cell_below HB cu
              have hu := hu.below HB
              have hSl := l5 _ (List.getElem_mem hjt)
              have hLl : (p.args.take j ++ List.replicate (p.args.length - j) ([] : List Int)).length = p.args.length := by simp; omega
              have hset : Hid ((p.args.take j ++ List.replicate (p.args.length - j) []).set j p.args[j] = p.args.take (j + 1) ++ List.replicate (p.args.length - (j + 1)) []) := Lib.hid (set_take_rep _ hjt)
              clear hca
              generalize p.args[j] = S at *
              obtain ⟨Au, ku, rfl, _⟩ := id hu
              have i0 : (0 : Int) ≤ (j : Int) := Int.natCast_nonneg _
              have i1 : (j : Int) < (p.args.length : Int) := by omega
              have HL1 := Lib.hid (HCl.out _ S wi _ hu (by omega))
              go_wp2_with fail
              refine HL1.out.mono ?_
              rintro e w3 ⟨v3, rfl, hO3, hb3⟩
              have hs3 := hb3.size
              have HO3 := HOa.bound.below hb3
              have hjL : j < (p.args.take j ++ List.replicate (p.args.length - j) ([] : List Int)).length := by omega
              obtain ⟨_, u0, cu0, fu0, -⟩ := HO3.focus hjL
              obtain ⟨A3', c3', rfl, _, _⟩ := hO3.form
              have HO4 := (HO3.put1 rfl hjL (y := S) (u := .slice A3' S.length c3') ⟨_, rfl, hO3⟩ (fun q hq h => by have := h.2; omega)).mono (G := fun q => wc.heap.size ≤ q) (fun q hq => by rcases hq with hq | hq; exact hq.1; omega)
              rw [hset.out] at HO4
              have hB2' := below_then HB hb3
              have hC := Chg.set (w := w3) (b := wc.heap.size) (o := j) (u := .slice A3' S.length c3') (A := fun q => q = wc.heap.size) rfl
              have HB3 := hC.to_below hB2' hB2'.size (fun q hq => by have hq : q = wc.heap.size := hq; omega)
              have hz3 : wc.heap.size < (w3.setCell ⟨wc.heap.size, j, none⟩ (.slice A3' S.length c3')).heap.size := by simp; omega
              clear HL1 HOa HO3 HB hb3 cu hset hO3 hu hC hB2'
              replace hLl := Lib.hid hLl
              clear hjL
              go_wp2_with fail
              go_roundw
              case rel => exact ⟨j + 1, by omega, by go_num, HO4, HB3, hz3⟩
              case measure => simp [intOf]; omega
            · obtain rfl : j = p.args.length := by omega
              rw [List.take_length, Nat.sub_self, List.replicate_zero, List.append_nil] at HOa
              have px2 := blk_below px HB
              have ho2 := blk_below ho HB
              have hr2 := blk_below hr HB
              have HO2 := HO.below HB
              have k0 := k0.below HB
              have k1 := k1.below HB
              have k2 := k2.below HB
              have HBi := below_then HBc HB
              obtain ⟨B0, e0, rfl, _, _⟩ := k0.form
              obtain ⟨B1, e1, rfl, _, _⟩ := k1.form
              obtain ⟨B2, e2, rfl, _, _⟩ := k2.form
              clear px ho hr HO HBc HB h4 hrA
              obtain ⟨y1, y2⟩ := cell_of_block px2
              have y15 : wi.cell? ⟨wo.heap.size, 5, none⟩ = some (.slice A4 p.args.length c4) := (y1 5).trans rfl
              have y25 := y2 5
              clear y1 y2
              have p3 := blk_put px2 5 (.slice (some ⟨wc.heap.size, 0, none⟩) p.args.length p.args.length)
              have ho3 := blk_set ho2 (a := ⟨wo.heap.size, 5, none⟩) (by dsimp only; omega) (.slice (some ⟨wc.heap.size, 0, none⟩) p.args.length p.args.length)
              have hr3 := blk_set hr2 (a := ⟨wo.heap.size, 5, none⟩) (by dsimp only; omega) (.slice (some ⟨wc.heap.size, 0, none⟩) p.args.length p.args.length)
              have hC := Chg.set (A := fun q => q = wo.heap.size) (w := wi) (b := wo.heap.size) (o := 5) (u := .slice (some ⟨wc.heap.size, 0, none⟩) p.args.length p.args.length) rfl
              have HO3 := HO2.move (hC.same (fun q hq h => by have h : q = wo.heap.size := h; have := hq.2; omega))
              have k0 := k0.move (hC.same (fun q hq h => by have h : q = wo.heap.size := h; have := g0 q hq; omega))
              have k1 := k1.move (hC.same (fun q hq h => by have h : q = wo.heap.size := h; have := g1 q hq; omega))
              have k2 := k2.move (hC.same (fun q hq h => by have h : q = wo.heap.size := h; have := g2 q hq; omega))
              have k3 := HOa.move (hC.same (fun q hq h => by have h : q = wo.heap.size := h; omega))
              have HB3 := hC.to_below HBi HBi.size (fun q hq => by have hq : q = wo.heap.size := hq; omega)
              have hs3 := hC.size
              have HK := partA_mk (F := fun q => wo.heap.size < q) (x := p) (fun q hq => (g0 q hq).1) (fun q hq => (g1 q hq).1) (fun q hq => (g2 q hq).1) (fun q hq => by omega) d01 d02 (fun q hq h => by have := (g0 q hq).2; omega) d12 (fun q hq h => by have := (g1 q hq).2; omega) (fun q hq h => by have := (g2 q hq).2; omega) k0 k1 k2 k3
              have hkL : k < LL.length := by have := hlL.out; omega
              have HP := (HO3.put rfl hkL HK (fun q hq h => by have := h.2; omega)).mono (G := fun q => w.heap.size + 2 ≤ q ∧ q ≠ ob) (fun q hq => by rcases hq with hq | hq; exact hq.1; omega)
              rw [hset.out] at HP
              obtain ⟨_, _, _, _, r5, f5⟩ := HO3.part_at hkL
              obtain ⟨r0, r1, r2, r3, r4, r5⟩ := r5
              obtain ⟨y1, _⟩ := cell_of_block ho3
              have yo : (wi.setCell ⟨wo.heap.size, 5, none⟩ (.slice (some ⟨wc.heap.size, 0, none⟩) p.args.length p.args.length)).cell? ⟨ob, 0, none⟩ = some (.slice (some ⟨mb, 0, none⟩) s.parts.length s.parts.length) := (y1 0).trans rfl
              clear y1
              obtain ⟨y1, _⟩ := cell_of_block p3
              have z0 : (wi.setCell ⟨wo.heap.size, 5, none⟩ (.slice (some ⟨wc.heap.size, 0, none⟩) p.args.length p.args.length)).cell? ⟨wo.heap.size, 0, none⟩ = some (.slice B0 p.params.length e0) := (y1 0).trans rfl
              have z1 : (wi.setCell ⟨wo.heap.size, 5, none⟩ (.slice (some ⟨wc.heap.size, 0, none⟩) p.args.length p.args.length)).cell? ⟨wo.heap.size, 1, none⟩ = some (.slice B1 p.code.length e1) := (y1 1).trans rfl
              have z2 : (wi.setCell ⟨wo.heap.size, 5, none⟩ (.slice (some ⟨wc.heap.size, 0, none⟩) p.args.length p.args.length)).cell? ⟨wo.heap.size, 2, none⟩ = some (.int .i64 p.go) := (y1 2).trans rfl
              have z3 : (wi.setCell ⟨wo.heap.size, 5, none⟩ (.slice (some ⟨wc.heap.size, 0, none⟩) p.args.length p.args.length)).cell? ⟨wo.heap.size, 3, none⟩ = some (.int .i64 p.test) := (y1 3).trans rfl
              have z4 : (wi.setCell ⟨wo.heap.size, 5, none⟩ (.slice (some ⟨wc.heap.size, 0, none⟩) p.args.length p.args.length)).cell? ⟨wo.heap.size, 4, none⟩ = some (.slice B2 p.next.length e2) := (y1 4).trans rfl
              have z5 : (wi.setCell ⟨wo.heap.size, 5, none⟩ (.slice (some ⟨wc.heap.size, 0, none⟩) p.args.length p.args.length)).cell? ⟨wo.heap.size, 5, none⟩ = some (.slice (some ⟨wc.heap.size, 0, none⟩) p.args.length p.args.length) := (y1 5).trans rfl
              clear y1
              have hmb := (HO3.lt_size (k := mb) rfl).1.1
              have hBf := putRow_below (g := mb) HB3 (by omega) [.slice B0 p.params.length e0, .slice B1 p.code.length e1, .int .i64 p.go, .int .i64 p.test, .slice B2 p.next.length e2, .slice (some ⟨wc.heap.size, 0, none⟩) p.args.length p.args.length] (k * 6)
              have hpr := putRow_same [.slice B0 p.params.length e0, .slice B1 p.code.length e1, .int .i64 p.go, .int .i64 p.test, .slice B2 p.next.length e2, .slice (some ⟨wc.heap.size, 0, none⟩) p.args.length p.args.length] mb (wi.setCell ⟨wo.heap.size, 5, none⟩ (.slice (some ⟨wc.heap.size, 0, none⟩) p.args.length p.args.length)) (k * 6)
              have hrF := (hpr.2 _ (by omega)).trans hr3
              have hoF := (hpr.2 _ hne.1).trans ho3
              clear hpr p3 ho3 hr3 HO3 hC k0 k1 k2 k3 HK HO2 px2 ho2 hr2 HOa HBi HB3
              go_wp2_with fail
              go_roundw
              case rel => exact ⟨k + 1, by omega, by go_num, hBf, hrF, hoF, HP⟩
              case measure => simp [intOf]; omega
      · obtain rfl : k = s.parts.length := by omega
        rw [List.take_length, Nat.sub_self, List.replicate_zero, List.append_nil] at HO
        obtain ⟨y1, _⟩ := cell_of_block ho
        have y10 : wo.cell? ⟨ob, 0, none⟩ = some (.slice (some ⟨mb, 0, none⟩) s.parts.length s.parts.length) := (y1 0).trans rfl
        have y11 : wo.cell? ⟨ob, 1, none⟩ = some (.int .i64 s.values) := (y1 1).trans rfl
        clear y1
        obtain ⟨y1, y2⟩ := cell_of_block hr
        have z10 : wo.cell? ⟨w.heap.size + 1, 0, none⟩ = some (.slice none 0 0) := (y1 0).trans rfl
        have z11 : wo.cell? ⟨w.heap.size + 1, 1, none⟩ = some (.int .i64 0) := (y1 1).trans rfl
        have z20 := y2 0
        have z21 := y2 1
        clear y1 y2
        have hBf := putRow_below (g := w.heap.size + 1) HB (by omega) [.slice (some ⟨mb, 0, none⟩) s.parts.length s.parts.length, .int .i64 s.values] 0
        have hpr := putRow_same [.slice (some ⟨mb, 0, none⟩) s.parts.length s.parts.length, .int .i64 s.values] (w.heap.size + 1) wo 0
        have HOf := (HO.move (w' := putRow wo (w.heap.size + 1) 0 [.slice (some ⟨mb, 0, none⟩) s.parts.length s.parts.length, .int .i64 s.values]) (fun q hq _ => hpr.2 q (by have := hq.1; omega))).mono (G := fun q => w.heap.size ≤ q) (fun q hq => by have := hq.1; omega)
        have cF := (cell_of_block (blk_put (blk_put hr 0 (.slice (some ⟨mb, 0, none⟩) s.parts.length s.parts.length)) 1 (.int .i64 s.values))).1
        replace cF := Lib.hid cF
        clear hpr HO HB hr ho
        go_wp2_with fail
        have cF := cF.out
        refine bodyPost_ret (v := saV s (.slice (some ⟨mb, 0, none⟩) s.parts.length s.parts.length)) (by simp [results, Tryz.results26, go_sem, saV, cF]) rfl ?_
        exact ⟨_, rfl, HOf, hBf⟩
end Go.Proofs.YtnfaibenekninaaGreat.L
