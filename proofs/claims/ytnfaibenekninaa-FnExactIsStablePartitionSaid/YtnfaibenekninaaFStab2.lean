/- Joined texts, each of which was built by itself: Mr5 Mr6 Px10 Gp1 Gp2. -/
import Derived.Test.YtnfaibenekninaaFStab1
import Derived.Test.YtnfaibenekninaaB2
set_option linter.unusedVariables false
set_option linter.unusedSimpArgs false
namespace Go.Proofs.Ytnfaibenekninaa.L
open Go.RowKit
def mkFl (z : Int) : Fl := ⟨z, z + 1, z + 1 + 1, z + 1 + 1 + 1, z + 1 + 1 + 1 + 1, z + 1 + 1 + 1 + 1 + 1⟩
def upF (k : Int) (n : Nat) : List Fl := (List.range n).map (fun i : Nat => mkFl (k + 6 * i))
theorem upF_len (k : Int) (n : Nat) : (upF k n).length = n := by unfold upF; simp
theorem upF_succ (k : Int) (n : Nat) : upF k (n + 1) = upF k n ++ [mkFl (k + 6 * n)] := by unfold upF; rw [List.range_succ, List.map_append]; rfl
theorem upF_get {k : Int} {n i : Nat} (hi : i < (upF k n).length) : (upF k n)[i] = mkFl (k + 6 * i) := by simp [upF]
theorem upF_set {k : Int} {m : Nat} {l : List Fl} (hm : m < l.length) : (upF k m ++ l.drop m).set m (mkFl (k + 6 * m)) = upF k (m + 1) ++ l.drop (m + 1) := by
  rw [List.drop_eq_getElem_cons hm, List.set_append_right _ _ (by rw [upF_len]; exact Nat.le_refl _), upF_len, Nat.sub_self, List.set_cons_zero, upF_succ, List.append_assoc]
  rfl
theorem flat_sz : flat.sz = 6 := rfl
set_option maxRecDepth 100000 in
set_option maxHeartbeats 4000000 in
theorem markF_own {F : Nat → Prop} (v : Value) (l : List Fl) (k : Int) (w : World) (h : Ow true 108 flat w F v l) (hk : 0 ≤ k) (hk2 : k + 6 * l.length ≤ 4611686018427387904) :
    Calls Try.prog 34 #[v, .int .i64 k] w fun e w' => e = .returned (.int .i64 (k + 6 * l.length)) ∧ Ow true 108 flat w' F v (upF k l.length) ∧ Chg F w w' := by
  obtain ⟨A, c, rfl, hc1, hc2⟩ := h.form
  have hA : l.length = 0 ∨ ∃ g, A = some ⟨g, 0, none⟩ ∧ F g := by
    by_cases hn : l.length = 0
    · exact .inl hn
    obtain ⟨g, c0, cs0, he0, hF0, _, _, _, hz0⟩ := h.at_ (List.getElem?_eq_getElem (show 0 < l.length by omega))
    cases he0
    exact .inr ⟨g, rfl, hF0⟩
  generalize hN : l.length = N at *
  go_enter Try.func34, Try.ntmps34
  go_wp2
  go_loopw [1, 5] (fun z i wr => ∃ m : Nat, m ≤ N ∧ i = .int .i64 m ∧ z = .int .i64 (k + 6 * m) ∧ Ow true 108 flat wr F (.slice A N c) (upF k m ++ l.drop m) ∧ Chg F w wr) (fun _ i _ => N - (intOf i).toNat)
  case atStart => exact ⟨0, Nat.zero_le _, rfl, by go_num, h, Chg.refl _ _⟩
  case round =>
    obtain ⟨m, hm, rfl, rfl, HO, HM⟩ := hrel
    rename World => wo
    by_cases hlt : m < N
    · rcases hA with hA | ⟨g, rfl, hF0⟩
      · omega
      have hml : m < (upF k m ++ l.drop m).length := by rw [List.length_append, upF_len, List.length_drop]; omega
      obtain ⟨Fr, Gk, us, hFr, hGk, hK, H0⟩ := HO.hole hml
      obtain rfl := flat_open hK
      have hU := Lib.hid (upF_set (k := k) (show m < l.length by omega))
      generalize (upF k m ++ l.drop m)[m] = x at *
      obtain ⟨z, hz⟩ : ∃ z : Int, z = k + 6 * m := ⟨_, rfl⟩
      rw [← hz] at hU
      have H1 := H0.set0 flat_sz (by omega) (.int .i64 z)
      have H2 := H1.setj (j := 1) flat_sz (by omega) (.int .i64 (z + 1))
      have H3 := H2.setj (j := 2) flat_sz (by omega) (.int .i64 (z + 1 + 1))
      have H4 := H3.setj (j := 3) flat_sz (by omega) (.int .i64 (z + 1 + 1 + 1))
      have H5 := H4.setj (j := 4) flat_sz (by omega) (.int .i64 (z + 1 + 1 + 1 + 1))
      have H6 := H5.setj (j := 5) flat_sz (by omega) (.int .i64 (z + 1 + 1 + 1 + 1 + 1))
      have hx0 := H0.cell0 flat_sz rfl
      have hx1 := H1.cellj 1 flat_sz rfl
      have hx2 := H2.cellj 2 flat_sz rfl
      have hx3 := H3.cellj 3 flat_sz rfl
      have hx4 := H4.cellj 4 flat_sz rfl
      have hx5 := H5.cellj 5 flat_sz rfl
      have hz0 := H0.free (m * 6)
      have hz1 := H0.free (m * 6 + 1)
      have hz2 := H0.free (m * 6 + 2)
      have hz3 := H0.free (m * 6 + 3)
      have hz4 := H0.free (m * 6 + 4)
      have hz5 := H0.free (m * 6 + 5)
      have HS := (H6.close (y := mkFl z) (flat_mk _ (fun _ => False) (mkFl z)) (fun _ h => h.elim)).mono (G := F) (fun q hq => by rcases hq with hq | hq; exact hFr q hq; exact hq.elim)
      rw [hU.out] at HS
      have hC := HM.trans ((((((Chg.set (w := wo) (o := m * 6) (u := .int .i64 z) hF0).trans (Chg.set (o := m * 6 + 1) (u := .int .i64 (z + 1)) hF0)).trans (Chg.set (o := m * 6 + 2) (u := .int .i64 (z + 1 + 1)) hF0)).trans (Chg.set (o := m * 6 + 3) (u := .int .i64 (z + 1 + 1 + 1)) hF0)).trans (Chg.set (o := m * 6 + 4) (u := .int .i64 (z + 1 + 1 + 1 + 1)) hF0)).trans (Chg.set (o := m * 6 + 5) (u := .int .i64 (z + 1 + 1 + 1 + 1 + 1)) hF0))
      clear HO HM h H0 H1 H2 H3 H4 H5 H6 hU hK
      have m0 : 0 ≤ z := by omega
      have m1 : z + 6 ≤ 4611686018427387904 := by omega
      have HZ := Lib.hid hz
      rw [← hz]
      clear hz
      have i0 : (0 : Int) ≤ (m : Int) := Int.natCast_nonneg _
      have i1 : (m : Int) < (N : Int) := by omega
      have t1 : IntKind.i64.wrap (z + 1) = z + 1 := IntWalk.i64_in _ (by omega)
      have t2 : IntKind.i64.wrap (z + 1 + 1) = z + 1 + 1 := IntWalk.i64_in _ (by omega)
      have t3 : IntKind.i64.wrap (z + 1 + 1 + 1) = z + 1 + 1 + 1 := IntWalk.i64_in _ (by omega)
      have t4 : IntKind.i64.wrap (z + 1 + 1 + 1 + 1) = z + 1 + 1 + 1 + 1 := IntWalk.i64_in _ (by omega)
      have t5 : IntKind.i64.wrap (z + 1 + 1 + 1 + 1 + 1) = z + 1 + 1 + 1 + 1 + 1 := IntWalk.i64_in _ (by omega)
      have t6 : IntKind.i64.wrap (z + 1 + 1 + 1 + 1 + 1 + 1) = z + 1 + 1 + 1 + 1 + 1 + 1 := IntWalk.i64_in _ (by omega)
      go_wp2_with fail
      go_roundw
      case rel => exact ⟨m + 1, by omega, by go_num, by have := HZ.out; congr 1; push_cast; omega, HS, hC⟩
      case measure => simp [intOf]; omega
    · obtain rfl : m = N := by omega
      rw [← hN, List.drop_length, List.append_nil, hN] at HO
      go_wp2
      go_ret
      exact ⟨rfl, HO, HM⟩
set_option maxRecDepth 100000 in
set_option maxHeartbeats 4000000 in
theorem heldF_calls {F : Nat → Prop} (v : Value) (n : Nat) (k : Int) (w : World) (h : Rp.Rd flat w F v (upF k n)) (hk : 0 ≤ k) (hk2 : k + 6 * n ≤ 4611686018427387904) :
    Calls Try.prog 35 #[v, .int .i64 k] w fun e w' => e = .returned (.int .i64 (k + 6 * n)) ∧ w = w' := by
  obtain ⟨A, c, rfl, hc1, hc2, hrow⟩ := rd_flat h
  have hl : (upF k n).length = n := upF_len k n
  have hrow : n = 0 ∨ ∃ b o, A = some ⟨b, o, none⟩ ∧ b < w.heap.size ∧ ∀ m : Nat, m < n → FlAt w b (o + m * 6) (mkFl (k + 6 * m)) := by
    rcases hrow with hnil | ⟨b, o, e, hb, hc⟩
    · left; rw [hnil] at hl; simpa using hl.symm
    · exact .inr ⟨b, o, e, hb, fun m hm => by have := hc m (by omega); rwa [upF_get] at this⟩
  rw [hl]
  rw [hl] at hc1
  go_enter Try.func35, Try.ntmps35
  go_wp2
  go_loop [1, 5] (fun z i => ∃ m : Nat, m ≤ n ∧ i = .int .i64 m ∧ z = .int .i64 (k + 6 * m)) (fun _ i => n - (intOf i).toNat)
  case atStart => exact ⟨0, Nat.zero_le _, rfl, by go_num⟩
  case round =>
    obtain ⟨m, hm, rfl, rfl⟩ := hrel
    by_cases hlt : m < n
    · rcases hrow with hnil | ⟨b, o, rfl, hb, hcell⟩
      · omega
      obtain ⟨z, hz⟩ : ∃ z : Int, z = k + 6 * m := ⟨_, rfl⟩
      have hx := hcell m hlt
      rw [← hz] at hx ⊢
      obtain ⟨x0, x1, x2, x3, x4, x5⟩ : w.cell? ⟨b, o + m * 6, none⟩ = some (.int .i64 z) ∧ w.cell? ⟨b, o + m * 6 + 1, none⟩ = some (.int .i64 (z + 1)) ∧ w.cell? ⟨b, o + m * 6 + 2, none⟩ = some (.int .i64 (z + 1 + 1)) ∧ w.cell? ⟨b, o + m * 6 + 3, none⟩ = some (.int .i64 (z + 1 + 1 + 1)) ∧ w.cell? ⟨b, o + m * 6 + 4, none⟩ = some (.int .i64 (z + 1 + 1 + 1 + 1)) ∧ w.cell? ⟨b, o + m * 6 + 5, none⟩ = some (.int .i64 (z + 1 + 1 + 1 + 1 + 1)) := hx
      clear hcell h hl
      have HZ := Lib.hid hz
      have m0 : 0 ≤ z := by omega
      have m1 : z + 6 ≤ 4611686018427387904 := by omega
      clear hz
      have i0 : (0 : Int) ≤ (m : Int) := Int.natCast_nonneg _
      have i1 : (m : Int) < (n : Int) := by omega
      have t1 : IntKind.i64.wrap (z + 1) = z + 1 := IntWalk.i64_in _ (by omega)
      have t2 : IntKind.i64.wrap (z + 1 + 1) = z + 1 + 1 := IntWalk.i64_in _ (by omega)
      have t3 : IntKind.i64.wrap (z + 1 + 1 + 1) = z + 1 + 1 + 1 := IntWalk.i64_in _ (by omega)
      have t4 : IntKind.i64.wrap (z + 1 + 1 + 1 + 1) = z + 1 + 1 + 1 + 1 := IntWalk.i64_in _ (by omega)
      have t5 : IntKind.i64.wrap (z + 1 + 1 + 1 + 1 + 1) = z + 1 + 1 + 1 + 1 + 1 := IntWalk.i64_in _ (by omega)
      have t6 : IntKind.i64.wrap (z + 1 + 1 + 1 + 1 + 1 + 1) = z + 1 + 1 + 1 + 1 + 1 + 1 := IntWalk.i64_in _ (by omega)
      have n0 : (z != z) = false := by simp
      have n1 : (z + 1 != z + 1) = false := by simp
      have n2 : (z + 1 + 1 != z + 1 + 1) = false := by simp
      have n3 : (z + 1 + 1 + 1 != z + 1 + 1 + 1) = false := by simp
      have n4 : (z + 1 + 1 + 1 + 1 != z + 1 + 1 + 1 + 1) = false := by simp
      have n5 : (z + 1 + 1 + 1 + 1 + 1 != z + 1 + 1 + 1 + 1 + 1) = false := by simp
      go_wp2_with fail
      go_round
      case rel => exact ⟨m + 1, by omega, by go_num, by have := HZ.out; congr 1; push_cast; omega⟩
      case measure => simp [intOf]; omega
    · obtain rfl : m = n := by omega
      go_wp2
      go_ret
      exact ⟨rfl, rfl⟩
end Go.Proofs.Ytnfaibenekninaa.L

set_option linter.unusedVariables false
set_option linter.unusedSimpArgs false
namespace Go.Proofs.Ytnfaibenekninaa.L
open Go.RowKit
/-- Small enough to be counted through. -/
def PtOk (p : Pt) : Prop := p.params.length ≤ 300 ∧ p.code.length ≤ 100 ∧ p.next.length ≤ 10 ∧ p.args.length ≤ 10 ∧ ∀ a ∈ p.args, a.length ≤ 300
def PtsOk (L : List Pt) : Prop := L.length ≤ 100 ∧ ∀ p ∈ L, PtOk p
def sizeP (p : Pt) : Nat := p.params.length + 6 * p.code.length + 2 + p.next.length + totLL p.args
def mkPt (z : Int) (p : Pt) : Pt := ⟨upL z p.params.length, upF (z + p.params.length) p.code.length, z + p.params.length + 6 * p.code.length, z + p.params.length + 6 * p.code.length + 1, upL (z + p.params.length + 6 * p.code.length + 1 + 1) p.next.length, marksLL (z + p.params.length + 6 * p.code.length + 1 + 1 + p.next.length) p.args⟩
def marksP (k : Int) : List Pt → List Pt
  | [] => []
  | p :: t => mkPt k p :: marksP (k + sizeP p) t
def totP (L : List Pt) : Nat := (L.map sizeP).sum
theorem totLL_le3 {L : List (List Int)} (h : ∀ a ∈ L, a.length ≤ 300) : totLL L ≤ L.length * 300 := by
  induction L with
  | nil => simp [totLL]
  | cons p t ih =>
    have h1 := h p List.mem_cons_self
    have h2 := ih (fun q hq => h q (List.mem_cons_of_mem _ hq))
    have e : totLL (p :: t) = p.length + totLL t := by simp [totLL]
    rw [e, List.length_cons, Nat.succ_mul]; omega
theorem sizeP_le {p : Pt} (h : PtOk p) : sizeP p ≤ 3912 := by
  have := totLL_le3 h.2.2.2.2
  have h1 := h.2.2.2.1
  unfold sizeP
  have := h.1; have := h.2.1; have := h.2.2.1
  omega
theorem marksP_len (L : List Pt) : ∀ k, (marksP k L).length = L.length := by
  induction L with
  | nil => intro k; rfl
  | cons p t ih => intro k; simp [marksP, ih]
theorem totP_le {L : List Pt} (h : ∀ p ∈ L, PtOk p) : totP L ≤ L.length * 3912 := by
  induction L with
  | nil => simp [totP]
  | cons p t ih =>
    have h1 := sizeP_le (h p List.mem_cons_self)
    have h2 := ih (fun q hq => h q (List.mem_cons_of_mem _ hq))
    have e : totP (p :: t) = sizeP p + totP t := by simp [totP]
    rw [e, List.length_cons, Nat.succ_mul]; omega
theorem marksP_app : ∀ (A B : List Pt) (k : Int), marksP k (A ++ B) = marksP k A ++ marksP (k + totP A) B := by
  intro A
  induction A with
  | nil => intro B k; simp [marksP, totP]
  | cons a t ih =>
    intro B k
    have e : k + (sizeP a : Int) + (totP t : Int) = k + (totP (a :: t) : Int) := by
      have : totP (a :: t) = sizeP a + totP t := by simp [totP]
      rw [this]; push_cast; omega
    simp only [List.cons_append, marksP, ih, e]
theorem totP_take {L : List Pt} {m : Nat} (hm : m < L.length) : totP (L.take (m + 1)) = totP (L.take m) + sizeP L[m] ∧ ∀ k, marksP k (L.take (m + 1)) = marksP k (L.take m) ++ [mkPt (k + totP (L.take m)) L[m]] := by
  have hs : ∀ (A : List Pt) (x : Pt), totP (A ++ [x]) = totP A + sizeP x := fun A x => by simp [totP]
  rw [List.take_succ_eq_append_getElem hm]
  exact ⟨hs _ _, fun k => by rw [marksP_app]; rfl⟩
theorem marksP_get {k : Int} {L : List Pt} {m : Nat} (hm : m < L.length) (hm2 : m < (marksP k L).length) : (marksP k L)[m] = mkPt (k + totP (L.take m)) L[m] := by
  have h := (totP_take hm).2 k
  have h2 := marksP_app (L.take (m + 1)) (L.drop (m + 1)) k
  rw [List.take_append_drop, h] at h2
  have e1 : (marksP k (L.take m)).length = m := by rw [marksP_len, List.length_take]; omega
  have : (marksP k L)[m]? = some (mkPt (k + totP (L.take m)) L[m]) := by
    rw [h2, List.append_assoc, List.getElem?_append_right (by omega), e1, Nat.sub_self]; rfl
  rw [List.getElem?_eq_getElem hm2] at this
  exact Option.some.inj this
theorem partA_sz : partA.sz = 6 := rfl
set_option maxRecDepth 100000 in
set_option maxHeartbeats 8000000 in
theorem markP_own {F : Nat → Prop} (v : Value) (L : List Pt) (k : Int) (w : World) (h : Ow true 145 partA w F v L) (hL : PtsOk L) (hk : 0 ≤ k) (hk2 : k ≤ 1000) :
    Calls Try.prog 65 #[v, .int .i64 k] w fun e w' => e = .returned (.int .i64 (k + totP L)) ∧ Ow true 145 partA w' F v (marksP k L) ∧ Chg F w w' := by
  obtain ⟨A, c, rfl, hc1, hc2⟩ := h.form
  have hA : L.length = 0 ∨ ∃ g, A = some ⟨g, 0, none⟩ ∧ F g := by
    by_cases hn : L.length = 0
    · exact .inl hn
    obtain ⟨g, c0, cs0, he0, hF0, _, _, _, hz0⟩ := h.at_ (List.getElem?_eq_getElem (show 0 < L.length by omega))
    cases he0
    exact .inr ⟨g, rfl, hF0⟩
  have hL1 := hL.1
  have HL := Lib.hid hL.2
  clear hL
  go_enter Try.func65, Try.ntmps65
  go_wp2
  go_loopw [1, 5] (fun z i wr => ∃ m : Nat, m ≤ L.length ∧ i = .int .i64 m ∧ z = .int .i64 (k + totP (L.take m)) ∧ Ow true 145 partA wr F (.slice A L.length c) (marksP k (L.take m) ++ L.drop m) ∧ Chg F w wr) (fun _ i _ => L.length - (intOf i).toNat)
  case atStart => exact ⟨0, Nat.zero_le _, rfl, by simp [totP], by simpa [marksP] using h, Chg.refl _ _⟩
  case round =>
    obtain ⟨m, hm, rfl, rfl, HO, HC⟩ := hrel
    rename World => wo
    by_cases hlt : m < L.length
    · rcases hA with hA | ⟨g, rfl, hF0⟩
      · omega
      have hml : m < (marksP k (L.take m) ++ L.drop m).length := by rw [List.length_append, marksP_len, List.length_take, List.length_drop]; omega
      have e1 : (marksP k (L.take m)).length = m := by rw [marksP_len, List.length_take]; omega
      have hgt : (marksP k (L.take m) ++ L.drop m)[m] = L[m] := by
        rw [List.getElem_append_right (by omega), List.getElem_drop]
        congr 1; omega
      obtain ⟨Fr, Gk, us, hFr, hGk, hK, H0⟩ := HO.hole hml
      rw [hgt] at hK
      obtain ⟨ht1, ht2⟩ := totP_take hlt
      have hset : Hid ((marksP k (L.take m) ++ L.drop m).set m (mkPt (k + totP (L.take m)) L[m]) = marksP k (L.take (m + 1)) ++ L.drop (m + 1)) := Lib.hid (by
        rw [ht2 k, List.drop_eq_getElem_cons hlt, List.set_append_right _ _ (by omega), e1, Nat.sub_self, List.set_cons_zero, List.append_assoc]
        rfl)
      have htb := totP_le (L := L.take m) (fun a ha => HL.out a (List.mem_of_mem_take ha))
      rw [List.length_take] at htb
      obtain ⟨q1, q2, q3, q4⟩ := HL.out _ (List.getElem_mem hlt)
      have HT := Lib.hid ht1
      have HC0 := Lib.hid HC
      clear ht1 ht2 hgt h HO e1 HC
      generalize L[m] = p at *
      have q5 := totLL_le3 q4.2
      have q6 : p.args.length ≤ 1000 := by omega
      have q7 : Hid (∀ a ∈ p.args, a.length ≤ 1000) := Lib.hid (fun a ha => by have := q4.2 a ha; omega)
      generalize marksP k (L.take m) ++ L.drop m = LL at *
      obtain ⟨y, hy⟩ : ∃ y : Int, y = k + totP (L.take m) := ⟨_, rfl⟩
      rw [← hy] at hset ⊢
      have y0 : 0 ≤ y := by omega
      have y1 : y ≤ 400000 := by
        have : min m L.length * 3912 ≤ 100 * 3912 := Nat.mul_le_mul_right _ (by omega)
        omega
      have HY := Lib.hid hy
      clear hy htb
      obtain ⟨G0, G1, G2, G3, i0, i1, i2, i3, d01, d02, d03, d12, d13, d23, vp, vc, vn, va, rfl, k1, k2, k3, k4⟩ := partA_open hK
      have hn0 : ∀ q, G0 q → ¬ Fr q := fun q hq => (hGk q (i0 q hq)).2.1
      have hn1 : ∀ q, G1 q → ¬ Fr q := fun q hq => (hGk q (i1 q hq)).2.1
      have hn2 : ∀ q, G2 q → ¬ Fr q := fun q hq => (hGk q (i2 q hq)).2.1
      have hn3 : ∀ q, G3 q → ¬ Fr q := fun q hq => (hGk q (i3 q hq)).2.1
      have hGF : ∀ q, Gk q → F q := fun q hq => (hGk q hq).1
      have hgg := H0.lt
      obtain ⟨Ap, cp, rfl, _, _⟩ := k1.form
      obtain ⟨Ac, cc, rfl, _, _⟩ := k2.form
      obtain ⟨An, cn, rfl, _, _⟩ := k3.form
      obtain ⟨Aa, ca, rfl, _, _⟩ := k4.form
      have m0 : (0 : Int) ≤ (m : Int) := Int.natCast_nonneg _
      have m1 : (m : Int) < (L.length : Int) := by omega
      have x0 := H0.cell0 partA_sz rfl
      have C1 := Lib.hid (markI_own _ p.params y wo k1 (by omega) (by omega))
      go_wp2_with fail
      refine C1.out.mono ?_
      rintro e w1 ⟨rfl, k1, X1⟩
      have H1 := H0.chg X1 hn0
      have k2 := k2.move (X1.same (fun q hq h => d01 q h hq))
      have k3 := k3.move (X1.same (fun q hq h => d02 q h hq))
      have k4 := k4.move (X1.same (fun q hq h => d03 q h hq))
      have Y1 := X1.mono (A' := F) (fun q hq => hGF q (i0 q hq))
      have x1 := H1.cellj 1 partA_sz rfl
      have C2 := Lib.hid (markF_own _ p.code (y + p.params.length) w1 k2 (by omega) (by omega))
      clear C1 X1 x0 H0
      go_wp2_with fail
      refine C2.out.mono ?_
      rintro e w2 ⟨rfl, k2, X2⟩
      have H2 := H1.chg X2 hn1
      have k1 := k1.move (X2.same (fun q hq h => d01 q hq h))
      have k3 := k3.move (X2.same (fun q hq h => d12 q h hq))
      have k4 := k4.move (X2.same (fun q hq h => d13 q h hq))
      have Y2 := Y1.trans (X2.mono (A' := F) (fun q hq => hGF q (i1 q hq)))
      clear C2 X2 x1 H1 Y1
      obtain ⟨z, hz⟩ : ∃ z : Int, z = y + p.params.length + 6 * p.code.length := ⟨_, rfl⟩
      have HZ := Lib.hid hz
      have z0 : 0 ≤ z := by omega
      have z1 : z ≤ y + 7000 := by omega
      rw [← hz]
      clear hz
      have x2 := H2.cellj 2 partA_sz rfl
      have H3 := H2.setj (j := 2) partA_sz (by omega) (.int .i64 z)
      have x3 := H3.cellj 3 partA_sz rfl
      have H4 := H3.setj (j := 3) partA_sz (by omega) (.int .i64 (z + 1))
      have f2 := H2.free (m * 6 + 2)
      have f3 := H2.free (m * 6 + 3)
      have X3 := (Chg.set (A := fun q => q = g) (w := w2) (b := g) (o := m * 6 + 2) (u := .int .i64 z) rfl).trans (Chg.set (b := g) (o := m * 6 + 3) (u := .int .i64 (z + 1)) rfl)
      have x4 := H4.cellj 4 partA_sz rfl
      have hng : ∀ q, Gk q → q ≠ g := fun q hq => (hGk q hq).2.2
      have k1 := k1.move (X3.same (fun q hq h => hng q (i0 q hq) h))
      have k2 := k2.move (X3.same (fun q hq h => hng q (i1 q hq) h))
      have k3 := k3.move (X3.same (fun q hq h => hng q (i2 q hq) h))
      have k4 := k4.move (X3.same (fun q hq h => hng q (i3 q hq) h))
      have Y3 := Y2.trans (X3.mono (A' := F) (fun q hq => by have hq : q = g := hq; subst hq; exact hF0))
      have t1 : IntKind.i64.wrap (z + 1) = z + 1 := IntWalk.i64_in _ (by omega)
      have t2 : IntKind.i64.wrap (z + 1 + 1) = z + 1 + 1 := IntWalk.i64_in _ (by omega)
      have C3 := Lib.hid (markI_own _ p.next (z + 1 + 1) _ k3 (by omega) (by omega))
      clear H2 H3 X3 Y2
      go_wp2_with fail
      refine C3.out.mono ?_
      rintro e w3 ⟨rfl, k3, X5⟩
      have H5 := H4.chg X5 hn2
      have k1 := k1.move (X5.same (fun q hq h => d02 q hq h))
      have k2 := k2.move (X5.same (fun q hq h => d12 q hq h))
      have k4 := k4.move (X5.same (fun q hq h => d23 q h hq))
      have Y5 := Y3.trans (X5.mono (A' := F) (fun q hq => hGF q (i2 q hq)))
      have x5 := H5.cellj 5 partA_sz rfl
      have C4 := Lib.hid (markII_own _ p.args (z + 1 + 1 + p.next.length) w3 k4 q6 q7.out (by omega) (by omega))
      clear C3 X5 x2 x3 x4 f2 f3 H4 Y3
      go_wp2_with fail
      refine C4.out.mono ?_
      rintro e w4 ⟨rfl, k4, X6⟩
      have H6 := H5.chg X6 hn3
      have k1 := k1.move (X6.same (fun q hq h => d03 q hq h))
      have k2 := k2.move (X6.same (fun q hq h => d13 q hq h))
      have k3 := k3.move (X6.same (fun q hq h => d23 q hq h))
      have Y6 := Y5.trans (X6.mono (A' := F) (fun q hq => hGF q (i3 q hq)))
      have HYZ : Hid (y + (sizeP p : Int) = z + 1 + 1 + p.next.length + totLL p.args) := Lib.hid (by have := HZ.out; unfold sizeP; push_cast; omega)
      have hKn : partA.K w4 Gk (mkPt y p) _ := partA_mk (x := mkPt y p) i0 i1 i2 i3 d01 d02 d03 d12 d13 d23 k1 k2 (by unfold mkPt; dsimp only; rw [← HZ.out]; exact k3) (by unfold mkPt; dsimp only; rw [← HZ.out]; exact k4)
      have hus : (mkPt y p).go = z ∧ (mkPt y p).test = z + 1 := by unfold mkPt; dsimp only; rw [← HZ.out]; exact ⟨rfl, rfl⟩
      rw [hus.1, hus.2] at hKn
      have HS := (H6.close hKn (fun q hq => (hGk q hq).2.1)).mono (G := F) (fun q hq => by rcases hq with hq | hq; exact hFr q hq; exact hGF q hq)
      rw [hset.out] at HS
      have HC2 := HC0.out.trans Y6
      clear C4 X6 x5 H5 Y5 H6 k1 k2 k3 k4 hKn hus HC0 hset
      go_wp2_with fail
      go_roundw
      case rel => exact ⟨m + 1, by omega, by go_num, by rw [HT.out]; congr 1; have := HYZ.out; have := HY.out; push_cast; omega, HS, HC2⟩
      case measure => simp [intOf]; omega
    · obtain rfl : m = L.length := by omega
      rw [List.take_length, List.drop_length, List.append_nil] at HO
      rw [List.take_length]
      go_wp2
      go_ret
      exact ⟨rfl, HO, HC⟩
set_option maxRecDepth 100000 in
set_option maxHeartbeats 4000000 in
theorem markSa_own {F : Nat → Prop} (vp : Value) (S : Sa) (k : Int) (w : World) (h : Ow true 145 partA w F vp S.parts) (hL : PtsOk S.parts) (hk : 0 ≤ k) (hk2 : k ≤ 1000) :
    Calls Try.prog 24 #[saV S vp, .int .i64 k] w fun e w' => e = .returned (.int .i64 (k + totP S.parts)) ∧ Ow true 145 partA w' F vp (marksP k S.parts) ∧ Chg F w w' := by
  obtain ⟨A, c, rfl, hc1, hc2⟩ := h.form
  have h := h.bound
  have hB := below_new (w := w) (.cells #[.slice A S.parts.length c, .int .i64 S.values] 31)
  have HC := Lib.hid (markP_own (.slice A S.parts.length c) S.parts k _ (h.below hB) hL hk hk2)
  unfold saV
  go_enter Try.func24, Try.ntmps24
  go_wp2_with fail
  refine HC.out.mono ?_
  rintro e w1 ⟨rfl, hO, hC⟩
  have hC2 := (Chg.of_below (A := fun q => F q ∧ q < w.heap.size) hB).trans hC
  clear HC hC
  go_wp2
  go_ret
  exact ⟨rfl, hO.mono (fun q hq => hq.1), hC2.mono (fun q hq => hq.1)⟩
end Go.Proofs.Ytnfaibenekninaa.L

set_option linter.unusedVariables false
set_option linter.unusedSimpArgs false
namespace Go.Proofs.Ytnfaibenekninaa.L
open Go.RowKit
theorem getD_set_bang {D : List Int} {a b : Nat} {x : Int} (ha : a < D.length) : (D.set a x)[b]! = if b = a then x else D[b]! := by
  by_cases h : b = a
  · subst h; rw [if_pos rfl]; simp [ha]
  · rw [if_neg h]; simp [List.getElem!_eq_getElem?_getD, List.getElem?_set, Ne.symm h]
theorem defStep_nodup {k : Int} (hk : 0 ≤ k) : ∀ {l : List Int} {D D' : List Int}, defStep k D l = some D' → l.Nodup ∧ ∀ v ∈ l, 0 ≤ v ∧ D[v.toNat]! < 0
  | [], _, _, _ => ⟨List.nodup_nil, fun v h => by cases h⟩
  | v :: t, D, D', h => by
    unfold defStep at h
    split at h
    · cases h
    · rename_i hc
      obtain ⟨h1, h2⟩ := defStep_nodup hk h
      have hv : v.toNat < D.length := by omega
      refine ⟨List.nodup_cons.2 ⟨fun hm => ?_, h1⟩, fun u hu => ?_⟩
      · have := (h2 v hm).2
        rw [getD_set_bang hv, if_pos rfl] at this; omega
      · rcases List.mem_cons.1 hu with rfl | hu
        · omega
        · obtain ⟨h3, h4⟩ := h2 u hu
          rw [getD_set_bang hv] at h4
          split at h4
          · omega
          · exact ⟨h3, h4⟩
theorem defsFrom_nodup : ∀ {ps : List Pt} {k : Int} {D D' : List Int}, 0 ≤ k → defsFrom k D ps = some D' → ∀ p ∈ ps, (ownS p).Nodup
  | [], _, _, _, _, _, p, hp => by cases hp
  | q :: t, k, D, D', hk, h, p, hp => by
    unfold defsFrom at h
    obtain ⟨D1, h1, h2⟩ := Option.bind_eq_some_iff.1 h
    rcases List.mem_cons.1 hp with rfl | hp
    · exact (defStep_nodup hk h1).1
    · exact defsFrom_nodup (by omega) h2 p hp
theorem GoodP.own_nodup {s : Sa} (h : GoodP s) {p : Pt} (hp : p ∈ s.parts) : (ownS p).Nodup := by
  obtain ⟨D, hD⟩ := Option.isSome_iff_exists.1 h.defs
  exact defsFrom_nodup (by omega) hD p hp
theorem GoodP.params_len {s : Sa} (h : GoodP s) {p : Pt} (hp : p ∈ s.parts) : p.params.length ≤ 250 := by
  obtain ⟨q, hq, hqe⟩ := List.getElem_of_mem hp
  have hq' : s.parts[q]? = some p := by rw [List.getElem?_eq_getElem hq, hqe]
  have hn := (List.nodup_append.1 (h.own_nodup hp)).1
  exact len_nodup_range hn (fun x hx => by have := h.own_def hq' (v := x) (List.mem_append.2 (.inl hx)); have := h.v2; omega)
theorem GoodP.next_len {s : Sa} (h : GoodP s) {p : Pt} (hp : p ∈ s.parts) : p.next.length ≤ 6 := by
  have hs := h.static hp
  unfold staticI at hs
  simp only [Bool.and_eq_true] at hs
  have hg := hs.1.1.2
  unfold goB at hg
  simp only [Bool.and_eq_true] at hg
  have hg := hg.2
  split at hg
  · simp at hg; omega
  · split at hg
    · simp at hg; omega
    · split at hg
      · unfold inB at hg; simp at hg; omega
      · simp at hg; rw [hg.2]; simp
theorem fitS_rows {parts : List Pt} {N : Nat} (hN : ∀ q ∈ parts, q.params.length ≤ N) : ∀ {ks : List Int} {l : List (List Int)}, fitS parts ks l = true → ∀ a ∈ l, a.length ≤ N
  | [], [], _, a, ha => by cases ha
  | [], _ :: _, h, _, _ => by simp [fitS] at h
  | _ :: _, [], h, _, ha => by cases ha
  | k :: ks, b :: l, h, a, ha => by
    simp only [fitS, Bool.and_eq_true] at h
    rcases List.mem_cons.1 ha with rfl | ha
    · cases hq : parts[k.toNat]? with
      | none => rw [hq] at h; simp at h
      | some q =>
        rw [hq] at h
        have := hN q (List.mem_of_getElem? hq)
        simp at h; omega
    · exact fitS_rows hN h.2 a ha
theorem GoodP.ptOk {s : Sa} (h : GoodP s) {p : Pt} (hp : p ∈ s.parts) : PtOk p := by
  have h1 := h.params_len hp
  have h2 := h.next_len hp
  have hs := h.static hp
  unfold staticI at hs
  simp only [Bool.and_eq_true] at hs
  have hpt := h.pt p hp
  unfold partS midS at hpt
  simp only [Bool.and_eq_true, decide_eq_true_eq] at hpt
  have h3 := hpt.1.2.2
  have ha := hs.2
  unfold argsS at ha
  refine ⟨by omega, by omega, by omega, ?_⟩
  split at ha
  · split at ha
    · rename_i a he
      rw [he]
      refine ⟨by simp, fun b hb => ?_⟩
      rw [List.mem_singleton.1 hb]
      simp at ha; omega
    · cases ha
  · have := fitS_len _ _ _ ha
    exact ⟨by omega, fun a haa => by have := fitS_rows (N := 250) (fun q hq => h.params_len hq) ha a haa; omega⟩
theorem GoodP.ptsOk {s : Sa} (h : GoodP s) : PtsOk s.parts := ⟨by have := h.n2; omega, fun p hp => h.ptOk hp⟩
/-- A part that goes on with what an edge hands on. -/
def extraP (tw : Int) (l : List Int) : Pt := ⟨[], [], 1, 0, [tw], [l]⟩
def setNA (p : Pt) (i : Nat) (x : Int) : Pt := { p with next := p.next.set i x, args := p.args.set i [] }
def stepSp (ps : List Pt) (p : Pt) (st : Pt × List Pt) (i : Nat) : Pt × List Pt :=
  if critB ps p i = true then (setNA st.1 i ((ps.length + st.2.length : Nat) : Int), st.2 ++ [extraP (p.next.getD i 0) (p.args.getD i [])]) else st
def splitP (ps : List Pt) (p : Pt) (ex : List Pt) : Nat → Pt × List Pt
  | 0 => (p, ex)
  | i + 1 => stepSp ps p (splitP ps p ex i) i
def splitK (ps : List Pt) : Nat → List Pt × List Pt
  | 0 => (ps, [])
  | k + 1 => ((splitK ps k).1.set k (splitP ps (ps.getD k zPt) (splitK ps k).2 (ps.getD k zPt).next.length).1, (splitP ps (ps.getD k zPt) (splitK ps k).2 (ps.getD k zPt).next.length).2)
def splitS (s : Sa) : Sa := ⟨(splitK s.parts s.parts.length).1 ++ (splitK s.parts s.parts.length).2, s.values⟩
def splitN (s : Sa) : Nat := (splitK s.parts s.parts.length).2.length
/-- What stays of a part while its places are split. -/
structure SpI (p : Pt) (q : Pt) (i : Nat) : Prop where
  pa : q.params = p.params
  co : q.code = p.code
  go : q.go = p.go
  te : q.test = p.test
  nl : q.next.length = p.next.length
  al : q.args.length = p.args.length
  nx : ∀ j, i ≤ j → q.next[j]? = p.next[j]?
  ar : ∀ j, i ≤ j → q.args[j]? = p.args[j]?
  am : ∀ a ∈ q.args, a = [] ∨ a ∈ p.args
theorem splitP_inv (ps : List Pt) (p : Pt) (ex : List Pt) : ∀ i, SpI p (splitP ps p ex i).1 i ∧ ex.length ≤ (splitP ps p ex i).2.length ∧ (splitP ps p ex i).2.length ≤ ex.length + i
  | 0 => ⟨⟨rfl, rfl, rfl, rfl, rfl, rfl, fun _ _ => rfl, fun _ _ => rfl, fun _ h => .inr h⟩, Nat.le_refl _, Nat.le_refl _⟩
  | i + 1 => by
    obtain ⟨h, h1, h2⟩ := splitP_inv ps p ex i
    unfold splitP stepSp
    split
    · refine ⟨⟨h.pa, h.co, h.go, h.te, by simp [setNA, h.nl], by simp [setNA, h.al], fun j hj => ?_, fun j hj => ?_, fun a ha => ?_⟩, by simp; omega, by simp; omega⟩
      · unfold setNA; dsimp only; rw [List.getElem?_set_ne (by omega)]; exact h.nx j (by omega)
      · unfold setNA; dsimp only; rw [List.getElem?_set_ne (by omega)]; exact h.ar j (by omega)
      · rcases List.mem_or_eq_of_mem_set ha with ha | rfl
        · exact h.am a ha
        · exact .inl rfl
    · exact ⟨⟨h.pa, h.co, h.go, h.te, h.nl, h.al, fun j hj => h.nx j (by omega), fun j hj => h.ar j (by omega), h.am⟩, h1, by omega⟩
theorem splitK_inv (ps : List Pt) : ∀ k, (splitK ps k).1.length = ps.length ∧ ∀ j, k ≤ j → (splitK ps k).1[j]? = ps[j]?
  | 0 => ⟨rfl, fun _ _ => rfl⟩
  | k + 1 => by
    obtain ⟨h1, h2⟩ := splitK_inv ps k
    refine ⟨by simp [splitK, h1], fun j hj => ?_⟩
    simp only [splitK]
    rw [List.getElem?_set_ne (by omega)]; exact h2 j (by omega)
theorem edgesN_app (A B : List Pt) (x : Int) : edgesN (A ++ B) x = edgesN A x + edgesN B x := by unfold edgesN; rw [List.map_append, List.sum_append]
theorem edgesN_set : ∀ {A : List Pt} {k : Nat} (q : Pt) (x : Int) (hk : k < A.length), edgesN (A.set k q) x + A[k].next.count x = edgesN A x + q.next.count x
  | p :: t, 0, q, x, _ => by simp [edgesN]; omega
  | p :: t, k + 1, q, x, hk => by
    have := edgesN_set (A := t) (k := k) q x (by simpa using hk)
    simp only [edgesN, List.set_cons_succ, List.map_cons, List.sum_cons, List.getElem_cons_succ] at this ⊢
    omega
theorem count_set : ∀ {l : List Int} {i : Nat} (v x : Int) (hi : i < l.length), (l.set i v).count x + (if l[i] = x then 1 else 0) = l.count x + (if v = x then 1 else 0)
  | a :: t, 0, v, x, _ => by simp [List.count_cons]; omega
  | a :: t, i + 1, v, x, hi => by
    have := count_set (l := t) (i := i) v x (by simpa using hi)
    simp only [List.set_cons_succ, List.count_cons, List.getElem_cons_succ] at this ⊢
    omega
/-- The parts that are now lead to the parts that were as often as those that were. -/
def EOk (ps cur : List Pt) : Prop := ∀ x : Int, x < ps.length → edgesN cur x = edgesN ps x
theorem EOk.step {ps L ex : List Pt} {P : Pt} {k i : Nat} {tw : Int} {l : List Int} (h : EOk ps (L.set k P ++ ex)) (hk : k < L.length) (hi : i < P.next.length) (hto : P.next[i] = tw) {n : Int} (hn : (ps.length : Int) ≤ n) : EOk ps (L.set k (setNA P i n) ++ (ex ++ [extraP tw l])) := by
  intro x hx
  have h0 := h x hx
  have h1 := edgesN_set (A := L.set k P) (k := k) (setNA P i n) x (by simpa using hk)
  rw [List.set_set, List.getElem_set_self] at h1
  have h2 := count_set (l := P.next) (i := i) n x hi
  have e1 : (setNA P i n).next = P.next.set i n := rfl
  rw [e1] at h1
  rw [edgesN_app] at h0
  rw [edgesN_app, edgesN_app]
  have e2 : edgesN [extraP tw l] x = if tw = x then 1 else 0 := by simp [edgesN, extraP, List.count_cons]
  rw [e2]
  rw [hto, if_neg (show ¬ n = x by omega)] at h2
  omega
theorem splitP_edges {ps : List Pt} {k : Nat} {ex : List Pt} {p : Pt} (hp : ps[k]? = some p) (hkl : k < (splitK ps k).1.length) (h : EOk ps ((splitK ps k).1.set k p ++ ex)) : ∀ i, i ≤ p.next.length → EOk ps ((splitK ps k).1.set k (splitP ps p ex i).1 ++ (splitP ps p ex i).2)
  | 0, _ => h
  | i + 1, hi => by
    have ih := splitP_edges hp hkl h i (by omega)
    obtain ⟨hI, _, _⟩ := splitP_inv ps p ex i
    unfold splitP stepSp
    split
    · have hil : i < (splitP ps p ex i).1.next.length := by rw [hI.nl]; omega
      refine EOk.step ih hkl hil ?_ (by omega)
      have := hI.nx i (Nat.le_refl _)
      rw [List.getElem?_eq_getElem hil, List.getElem?_eq_getElem (by omega)] at this
      rw [List.getD_eq_getElem?_getD, List.getElem?_eq_getElem (by omega)]
      exact Option.some.inj this
    · exact ih
theorem splitK_set {ps : List Pt} {k : Nat} {p : Pt} (hp : ps[k]? = some p) : (splitK ps k).1.set k p = (splitK ps k).1 := by
  have h := (splitK_inv ps k).2 k (Nat.le_refl _)
  rw [hp] at h
  obtain ⟨hk, he⟩ := List.getElem?_eq_some_iff.1 h
  rw [← he, List.set_getElem_self]
theorem splitK_edges (ps : List Pt) : ∀ k, k ≤ ps.length → EOk ps ((splitK ps k).1 ++ (splitK ps k).2)
  | 0, _ => fun x _ => by simp [splitK]
  | k + 1, hk => by
    have ih := splitK_edges ps k (by omega)
    have hp : ps[k]? = some (ps.getD k zPt) := by rw [List.getD_eq_getElem?_getD, List.getElem?_eq_getElem (by omega)]; rfl
    have hkl : k < (splitK ps k).1.length := by rw [(splitK_inv ps k).1]; omega
    rw [← splitK_set hp] at ih
    exact splitP_edges hp hkl ih _ (Nat.le_refl _)
/-- The edge is critical now just if it was at first. -/
theorem crit_now {s : Sa} (h : GoodP s) {k i : Nat} {p : Pt} {ex : List Pt} (hp : s.parts[k]? = some p) (hi : i < p.next.length) (he : EOk s.parts ((splitK s.parts k).1.set k (splitP s.parts p ex i).1 ++ (splitP s.parts p ex i).2)) :
    critB ((splitK s.parts k).1.set k (splitP s.parts p ex i).1 ++ (splitP s.parts p ex i).2) (splitP s.parts p ex i).1 i = critB s.parts p i := by
  obtain ⟨hI, _, _⟩ := splitP_inv s.parts p ex i
  unfold critB
  have e1 : (splitP s.parts p ex i).1.next.getD i 0 = p.next.getD i 0 := by rw [List.getD_eq_getElem?_getD, List.getD_eq_getElem?_getD, hI.nx i (Nat.le_refl _)]
  have e2 : (splitP s.parts p ex i).1.args.getD i [] = p.args.getD i [] := by rw [List.getD_eq_getElem?_getD, List.getD_eq_getElem?_getD, hI.ar i (Nat.le_refl _)]
  have e3 : p.next.getD i 0 = p.next[i] := by rw [List.getD_eq_getElem?_getD, List.getElem?_eq_getElem hi]; rfl
  have hx := h.nx p (List.mem_of_getElem? hp) _ (List.getElem_mem hi)
  rw [hI.nl, e1, e2, e3, he _ hx.2]
/-- Bounds of what comes of it. -/
structure SpB (ps : List Pt) (L ex : List Pt) : Prop where
  l : ∀ p ∈ L, PtOk p
  e : ∀ p ∈ ex, PtOk p
theorem extra_ok {tw : Int} {l : List Int} (h : l.length ≤ 300) : PtOk (extraP tw l) := ⟨by simp [extraP], by simp [extraP], by simp [extraP], by simp [extraP], fun a ha => by simp [extraP] at ha; rw [ha]; exact h⟩
theorem SpI.ok {p q : Pt} {i : Nat} (h : SpI p q i) (hp : PtOk p) : PtOk q := ⟨by rw [h.pa]; exact hp.1, by rw [h.co]; exact hp.2.1, by rw [h.nl]; exact hp.2.2.1, by rw [h.al]; exact hp.2.2.2.1, fun a ha => by rcases h.am a ha with rfl | ha; simp; exact hp.2.2.2.2 a ha⟩
theorem splitP_ok {ps : List Pt} {p : Pt} {ex : List Pt} (hp : PtOk p) (he : ∀ q ∈ ex, PtOk q) : ∀ i, ∀ q ∈ (splitP ps p ex i).2, PtOk q
  | 0 => he
  | i + 1 => by
    have ih := splitP_ok (ps := ps) hp he i
    unfold splitP stepSp
    split
    · intro q hq
      rcases List.mem_append.1 hq with hq | hq
      · exact ih q hq
      · rw [List.mem_singleton.1 hq]
        refine extra_ok ?_
        rw [List.getD_eq_getElem?_getD]
        cases ha : p.args[i]? with
        | none => simp
        | some a => exact hp.2.2.2.2 a (List.mem_of_getElem? ha)
    · exact ih
theorem splitK_ok {ps : List Pt} (hp : ∀ p ∈ ps, PtOk p) : ∀ k, k ≤ ps.length → SpB ps (splitK ps k).1 (splitK ps k).2 ∧ (splitK ps k).2.length ≤ 10 * k
  | 0, _ => ⟨⟨hp, fun _ h => by cases h⟩, by simp [splitK]⟩
  | k + 1, hk => by
    obtain ⟨h1, h2⟩ := splitK_ok hp k (by omega)
    have hm : ps.getD k zPt ∈ ps := by rw [List.getD_eq_getElem?_getD, List.getElem?_eq_getElem (by omega)]; exact List.getElem_mem _
    have hok := hp _ hm
    obtain ⟨hI, _, h4⟩ := splitP_inv ps (ps.getD k zPt) (splitK ps k).2 (ps.getD k zPt).next.length
    refine ⟨⟨fun q hq => ?_, splitP_ok hok h1.e _⟩, ?_⟩
    · rcases List.mem_or_eq_of_mem_set hq with hq | rfl
      · exact h1.l q hq
      · exact hI.ok hok
    · have := hok.2.2.1
      simp only [splitK]; omega
theorem PtOk.lim {p : Pt} (h : PtOk p) : PtLim p := ⟨by have := h.1; omega, by have := h.2.1; omega, by have := h.2.2.1; omega, by have := h.2.2.2.1; omega, fun a ha => by have := h.2.2.2.2 a ha; omega⟩
theorem splitS_lim {s : Sa} (h : GoodP s) : SaLim (splitS s) := by
  obtain ⟨h1, h2⟩ := splitK_ok (ps := s.parts) (fun p hp => h.ptOk hp) s.parts.length (Nat.le_refl _)
  have h3 := (splitK_inv s.parts s.parts.length).1
  have h4 := h.n2
  refine ⟨?_, fun p hp => ?_⟩
  · show ((splitK s.parts s.parts.length).1 ++ _).length ≤ _
    rw [List.length_append]; omega
  · rcases List.mem_append.1 hp with hp | hp
    · exact (h1.l p hp).lim
    · exact (h1.e p hp).lim
theorem now_ok {s : Sa} (h : GoodP s) {k i : Nat} {p : Pt} (hp : s.parts[k]? = some p) (hi : i ≤ p.next.length) :
    (∀ q ∈ (splitK s.parts k).1.set k (splitP s.parts p (splitK s.parts k).2 i).1 ++ (splitP s.parts p (splitK s.parts k).2 i).2, PtOk q) ∧ (splitP s.parts p (splitK s.parts k).2 i).2.length ≤ 120 := by
  have hk : k < s.parts.length := (List.getElem?_eq_some_iff.1 hp).1
  obtain ⟨h1, h2⟩ := splitK_ok (ps := s.parts) (fun p hp => h.ptOk hp) k (by omega)
  have hpo := h.ptOk (List.mem_of_getElem? hp)
  obtain ⟨h3, _, h5⟩ := splitP_inv s.parts p (splitK s.parts k).2 i
  have hn := h.n2
  have hnx := hpo.2.2.1
  refine ⟨fun q hq => ?_, by omega⟩
  rcases List.mem_append.1 hq with hq | hq
  · rcases List.mem_or_eq_of_mem_set hq with hq | rfl
    · exact h1.l q hq
    · exact h3.ok hpo
  · exact splitP_ok hpo h1.e i q hq
theorem splitK_succ {ps : List Pt} {k : Nat} {p : Pt} (hp : ps[k]? = some p) : splitK ps (k + 1) = ((splitK ps k).1.set k (splitP ps p (splitK ps k).2 p.next.length).1, (splitP ps p (splitK ps k).2 p.next.length).2) := by
  have : ps.getD k zPt = p := by rw [List.getD_eq_getElem?_getD, hp]; rfl
  simp only [splitK, this]
theorem splitP_edges0 {s : Sa} {k : Nat} {p : Pt} (hp : s.parts[k]? = some p) {i : Nat} (hi : i ≤ p.next.length) : EOk s.parts ((splitK s.parts k).1.set k (splitP s.parts p (splitK s.parts k).2 i).1 ++ (splitP s.parts p (splitK s.parts k).2 i).2) := by
  have hk : k < s.parts.length := (List.getElem?_eq_some_iff.1 hp).1
  have h := splitK_edges s.parts k (by omega)
  rw [← splitK_set hp] at h
  exact splitP_edges hp (by rw [(splitK_inv s.parts k).1]; exact hk) h i hi
end Go.Proofs.Ytnfaibenekninaa.L

set_option linter.unusedVariables false
namespace Go.Proofs.Ytnfaibenekninaa.L
section
variable {κ μ : Type} [DecidableEq κ] [DecidableEq μ]
/-- Distinct things of a list, in the order in which they first come. -/
def addF (s : List κ) (x : κ) : List κ := if x ∈ s then s else s ++ [x]
def firsts (l : List κ) : List κ := l.foldl addF []
def numL (l : List κ) : List Nat := l.map (fun x => (firsts l).idxOf x)
theorem firsts_snoc (l : List κ) (x : κ) : firsts (l ++ [x]) = addF (firsts l) x := by unfold firsts; rw [List.foldl_append]; rfl
theorem mem_addF {s : List κ} {x y : κ} : y ∈ addF s x ↔ y ∈ s ∨ y = x := by
  unfold addF
  split
  · rename_i h
    exact ⟨.inl, fun h' => h'.elim id (fun e => by rw [e]; exact h)⟩
  · simp
theorem mem_foldF (l : List κ) : ∀ (s : List κ) (y : κ), y ∈ l.foldl addF s ↔ y ∈ s ∨ y ∈ l := by
  induction l with
  | nil => intro s y; simp
  | cons x t ih => intro s y; rw [List.foldl_cons, ih, mem_addF, List.mem_cons, or_assoc]
theorem mem_firsts {l : List κ} {y : κ} : y ∈ firsts l ↔ y ∈ l := by unfold firsts; rw [mem_foldF]; simp
theorem foldF_pre (l : List κ) : ∀ s : List κ, s <+: l.foldl addF s := by
  induction l with
  | nil => intro s; exact List.prefix_refl _
  | cons x t ih =>
    intro s
    rw [List.foldl_cons]
    refine List.IsPrefix.trans ?_ (ih _)
    unfold addF
    split
    · exact List.prefix_refl _
    · exact List.prefix_append _ _
theorem firsts_pre (l m : List κ) : firsts l <+: firsts (l ++ m) := by
  unfold firsts
  rw [List.foldl_append]
  exact foldF_pre _ _
theorem idx_pre {s t : List κ} (h : s <+: t) {x : κ} (hx : x ∈ s) : t.idxOf x = s.idxOf x := by
  obtain ⟨u, rfl⟩ := h
  rw [List.idxOf_append, if_pos hx]
theorem idx_inj {s : List κ} {x y : κ} (hx : x ∈ s) (hy : y ∈ s) (h : s.idxOf x = s.idxOf y) : x = y := by
  have h1 := List.getElem_idxOf (List.idxOf_lt_length_of_mem hx)
  have h2 := List.getElem_idxOf (List.idxOf_lt_length_of_mem hy)
  rw [← h1, ← h2]
  simp only [h]
theorem take_snoc {l : List κ} {i : Nat} (hi : i < l.length) : firsts (l.take (i + 1)) = addF (firsts (l.take i)) l[i] := by
  rw [List.take_succ_eq_append_getElem hi, firsts_snoc]
theorem idx_take {l : List κ} {i : Nat} {x : κ} (hx : x ∈ l.take i) : (firsts l).idxOf x = (firsts (l.take i)).idxOf x := by
  have h := firsts_pre (l.take i) (l.drop i)
  rw [List.take_append_drop] at h
  exact idx_pre h (mem_firsts.2 hx)
theorem numL_len (l : List κ) : (numL l).length = l.length := by unfold numL; simp
theorem numL_get {l : List κ} {i : Nat} (hi : i < l.length) : (numL l).getD i 0 = (firsts l).idxOf l[i] := by
  unfold numL
  rw [List.getD_eq_getElem?_getD, List.getElem?_map, List.getElem?_eq_getElem hi]
  rfl
theorem numL_lt {l : List κ} {i : Nat} (hi : i < l.length) : (numL l).getD i 0 < (firsts l).length := by
  rw [numL_get hi]
  exact List.idxOf_lt_length_of_mem (mem_firsts.2 (List.getElem_mem hi))
theorem firsts_len (l : List κ) : (firsts l).length ≤ l.length := by
  have key : ∀ (l s : List κ), (l.foldl addF s).length ≤ s.length + l.length := by
    intro l
    induction l with
    | nil => intro s; simp
    | cons x t ih =>
      intro s
      rw [List.foldl_cons, List.length_cons]
      refine Nat.le_trans (ih _) ?_
      have : (addF s x).length ≤ s.length + 1 := by unfold addF; split <;> simp
      omega
  have := key l []
  simpa [firsts] using this
theorem numL_iff {l : List κ} {i j : Nat} (hi : i < l.length) (hj : j < l.length) : (numL l).getD i 0 = (numL l).getD j 0 ↔ l[i] = l[j] := by
  rw [numL_get hi, numL_get hj]
  exact ⟨fun h => idx_inj (mem_firsts.2 (List.getElem_mem hi)) (mem_firsts.2 (List.getElem_mem hj)) h, fun h => by rw [h]⟩
omit [DecidableEq κ] in
theorem mem_take_iff {l : List κ} {n : Nat} {x : κ} (hn : n ≤ l.length) : x ∈ l.take n ↔ ∃ (j : Nat) (hj : j < n), l[j]'(by omega) = x := by
  rw [List.mem_take_iff_getElem]
  constructor
  · rintro ⟨j, hj, h⟩; exact ⟨j, by omega, h⟩
  · rintro ⟨j, hj, h⟩; exact ⟨j, by omega, h⟩
/-- Two lists alike in what is alike are numbered alike. -/
theorem num_take {l : List κ} {m : List μ} (hl : l.length = m.length) (h : ∀ (i j : Nat) (hi : i < l.length) (hj : j < l.length), l[i] = l[j] ↔ m[i]'(by omega) = m[j]'(by omega)) : ∀ n, n ≤ l.length →
    (firsts (l.take n)).length = (firsts (m.take n)).length ∧ ∀ (i : Nat) (hi : i < n) (hn : i < l.length), (firsts (l.take n)).idxOf l[i] = (firsts (m.take n)).idxOf (m[i]'(by omega)) := by
  intro n
  induction n with
  | zero => intro _; exact ⟨by simp [firsts], fun i hi => by omega⟩
  | succ n ih =>
    intro hn
    obtain ⟨h1, h2⟩ := ih (by omega)
    have hnl : n < l.length := by omega
    have hnm : n < m.length := by omega
    rw [take_snoc hnl, take_snoc hnm]
    have hiff : l[n] ∈ firsts (l.take n) ↔ m[n] ∈ firsts (m.take n) := by
      rw [mem_firsts, mem_firsts, mem_take_iff (by omega), mem_take_iff (by omega)]
      exact exists_congr fun j => exists_congr fun hj => h j n (by omega) hnl
    unfold addF
    by_cases hin : l[n] ∈ firsts (l.take n)
    · rw [if_pos hin, if_pos (hiff.1 hin)]
      refine ⟨h1, fun i hi hil => ?_⟩
      rcases Nat.lt_or_eq_of_le (Nat.le_of_lt_succ hi) with hi | rfl
      · exact h2 i hi hil
      · obtain ⟨j, hj, hjx⟩ := (mem_take_iff (by omega)).1 (mem_firsts.1 hin)
        have hjy := (h j i (by omega) hil).1 hjx
        rw [← hjx, ← hjy]
        exact h2 j hj (by omega)
    · rw [if_neg hin, if_neg (fun hh => hin (hiff.2 hh))]
      refine ⟨by rw [List.length_append, List.length_append, h1]; rfl, fun i hi hil => ?_⟩
      rcases Nat.lt_or_eq_of_le (Nat.le_of_lt_succ hi) with hi | rfl
      · have a1 : l[i] ∈ firsts (l.take n) := mem_firsts.2 ((mem_take_iff (by omega)).2 ⟨i, hi, rfl⟩)
        have a2 : m[i]'(by omega) ∈ firsts (m.take n) := mem_firsts.2 ((mem_take_iff (by omega)).2 ⟨i, hi, rfl⟩)
        rw [List.idxOf_append, if_pos a1, List.idxOf_append, if_pos a2]
        exact h2 i hi hil
      · rw [List.idxOf_append, if_neg hin, List.idxOf_append, if_neg (fun hh => hin (hiff.2 hh)), h1]
        simp
theorem num_congr {l : List κ} {m : List μ} (hl : l.length = m.length) (h : ∀ (i j : Nat) (hi : i < l.length) (hj : j < l.length), l[i] = l[j] ↔ m[i]'(by omega) = m[j]'(by omega)) : numL l = numL m ∧ (firsts l).length = (firsts m).length := by
  obtain ⟨h1, h2⟩ := num_take hl h l.length (Nat.le_refl _)
  have ht : m.take l.length = m := by rw [hl, List.take_length]
  rw [List.take_length, ht] at h1 h2
  refine ⟨?_, h1⟩
  apply List.ext_getElem
  · rw [numL_len, numL_len, hl]
  · intro i hi hi'
    rw [numL_len] at hi hi'
    simp only [numL, List.getElem_map]
    exact h2 i (by omega) hi
/-- A finer list has no fewer different things, and as many only where it is no finer. -/
theorem num_fine {l : List κ} {m : List μ} (hl : l.length = m.length) (h : ∀ (i j : Nat) (hi : i < l.length) (hj : j < l.length), m[i]'(by omega) = m[j]'(by omega) → l[i] = l[j]) : ∀ n, n ≤ l.length →
    (firsts (l.take n)).length ≤ (firsts (m.take n)).length ∧ ((firsts (l.take n)).length = (firsts (m.take n)).length → ∀ (i j : Nat) (hi : i < n) (hj : j < n) (hil : i < l.length) (hjl : j < l.length), l[i] = l[j] → m[i]'(by omega) = m[j]'(by omega)) := by
  intro n
  induction n with
  | zero => intro _; exact ⟨by simp [firsts], fun _ i j hi => by omega⟩
  | succ n ih =>
    intro hn
    obtain ⟨h1, h2⟩ := ih (by omega)
    have hnl : n < l.length := by omega
    have hnm : n < m.length := by omega
    rw [take_snoc hnl, take_snoc hnm]
    have hL : l[n] ∈ firsts (l.take n) ↔ ∃ (j : Nat) (hj : j < n), l[j]'(by omega) = l[n] := by rw [mem_firsts, mem_take_iff (by omega)]
    have hM : m[n] ∈ firsts (m.take n) ↔ ∃ (j : Nat) (hj : j < n), m[j]'(by omega) = m[n] := by rw [mem_firsts, mem_take_iff (by omega)]
    unfold addF
    by_cases hm : m[n] ∈ firsts (m.take n)
    · obtain ⟨q, hq, hqm⟩ := hM.1 hm
      have hql := h q n (by omega) hnl hqm
      rw [if_pos (hL.2 ⟨q, hq, hql⟩), if_pos hm]
      refine ⟨h1, fun he i j hi hj hil hjl hij => ?_⟩
      have h3 := h2 he
      have hx : ∀ (i : Nat) (hi : i < n + 1) (hil : i < l.length), ∃ (a : Nat) (ha : a < n), l[a]'(by omega) = l[i] ∧ m[a]'(by omega) = m[i]'(by omega) := by
        intro i hi hil
        rcases Nat.lt_or_eq_of_le (Nat.le_of_lt_succ hi) with hi | rfl
        · exact ⟨i, hi, rfl, rfl⟩
        · exact ⟨q, hq, hql, hqm⟩
      obtain ⟨a, ha, ha1, ha2⟩ := hx i hi hil
      obtain ⟨b, hb, hb1, hb2⟩ := hx j hj hjl
      rw [← ha2, ← hb2]
      exact h3 a b ha hb (by omega) (by omega) (by rw [ha1, hb1, hij])
    · rw [if_neg hm]
      by_cases hlm : l[n] ∈ firsts (l.take n)
      · rw [if_pos hlm, List.length_append]
        exact ⟨by omega, fun he => by simp only [List.length_cons, List.length_nil] at he; omega⟩
      · rw [if_neg hlm, List.length_append, List.length_append]
        refine ⟨by simpa using h1, fun he i j hi hj hil hjl hij => ?_⟩
        have h3 := h2 (by simpa using he)
        rcases Nat.lt_or_eq_of_le (Nat.le_of_lt_succ hi) with hi | rfl
        · rcases Nat.lt_or_eq_of_le (Nat.le_of_lt_succ hj) with hj | rfl
          · exact h3 i j hi hj hil hjl hij
          · exact absurd (hL.2 ⟨i, hi, hij⟩) hlm
        · rcases Nat.lt_or_eq_of_le (Nat.le_of_lt_succ hj) with hj | rfl
          · exact absurd (hL.2 ⟨j, hj, hij.symm⟩) hlm
          · rfl
theorem firsts_le {l : List κ} {m : List μ} (hl : l.length = m.length) (h : ∀ (i j : Nat) (hi : i < l.length) (hj : j < l.length), m[i]'(by omega) = m[j]'(by omega) → l[i] = l[j]) : (firsts l).length ≤ (firsts m).length := by
  have := (num_fine hl h l.length (Nat.le_refl _)).1
  have ht : m.take l.length = m := by rw [hl, List.take_length]
  rwa [List.take_length, ht] at this
theorem firsts_eq_iff {l : List κ} {m : List μ} (hl : l.length = m.length) (h : ∀ (i j : Nat) (hi : i < l.length) (hj : j < l.length), m[i]'(by omega) = m[j]'(by omega) → l[i] = l[j]) :
    (firsts m).length = (firsts l).length ↔ ∀ (i j : Nat) (hi : i < l.length) (hj : j < l.length), l[i] = l[j] → m[i]'(by omega) = m[j]'(by omega) := by
  constructor
  · intro he i j hi hj
    have := (num_fine hl h l.length (Nat.le_refl _)).2
    have ht : m.take l.length = m := by rw [hl, List.take_length]
    rw [List.take_length, ht] at this
    exact this he.symm i j (by omega) (by omega) hi hj
  · intro h'
    exact (num_congr hl (fun i j hi hj => ⟨h' i j hi hj, h i j hi hj⟩)).2.symm
/-- The least place with the same key. -/
def leastS (f : Nat → κ) (v : Nat) : Nat := ((List.range v).find? (fun w => decide (f w = f v))).getD v
theorem leastS_spec (f : Nat → κ) (v : Nat) : leastS f v ≤ v ∧ f (leastS f v) = f v ∧ ∀ w, w < leastS f v → f w ≠ f v := by
  unfold leastS
  cases h : (List.range v).find? (fun w => decide (f w = f v)) with
  | none =>
    rw [List.find?_eq_none] at h
    exact ⟨Nat.le_refl _, rfl, fun w hw => by simpa using h w (List.mem_range.2 hw)⟩
  | some w =>
    rw [List.find?_range_eq_some] at h
    obtain ⟨h1, h2, h3⟩ := h
    exact ⟨by have := List.mem_range.1 h2; simp; omega, by simpa using h1, fun u hu => by simpa using h3 u hu⟩
theorem leastS_iff (f : Nat → κ) (v w : Nat) : leastS f v = leastS f w ↔ f v = f w := by
  obtain ⟨a1, a2, a3⟩ := leastS_spec f v
  obtain ⟨b1, b2, b3⟩ := leastS_spec f w
  constructor
  · intro h; rw [← a2, ← b2, h]
  · intro h
    rcases Nat.lt_trichotomy (leastS f v) (leastS f w) with hh | hh | hh
    · exact absurd (a2.trans h) (b3 _ hh)
    · exact hh
    · exact absurd (b2.trans h.symm) (a3 _ hh)
/-- leastS is determined by what is alike. -/
theorem leastS_congr {f : Nat → κ} {g : Nat → μ} {n : Nat} (h : ∀ v w, v < n → w < n → (f v = f w ↔ g v = g w)) {v : Nat} (hv : v < n) : leastS f v = leastS g v := by
  obtain ⟨a1, a2, a3⟩ := leastS_spec f v
  obtain ⟨b1, b2, b3⟩ := leastS_spec g v
  rcases Nat.lt_trichotomy (leastS f v) (leastS g v) with hh | hh | hh
  · exact absurd ((h _ _ (by omega) hv).1 a2) (b3 _ hh)
  · exact hh
  · exact absurd ((h _ _ (by omega) hv).2 b2) (a3 _ hh)
end
end Go.Proofs.Ytnfaibenekninaa.L

set_option linter.unusedVariables false
namespace Go.Proofs.Ytnfaibenekninaa.L
section
variable {σ : Type} [DecidableEq σ]
/-- What the program's round asks of a value: its group, and those of what it uses. -/
def keyI (us : Nat → List Nat) (now : List Nat) (k : Nat) : Nat × List UInt8 := (now.getD k 0, (us k).map (fun u => UInt8.ofNat (now.getD u 0)))
def keysI (n : Nat) (us : Nat → List Nat) (now : List Nat) : List (Nat × List UInt8) := (List.range n).map (keyI us now)
def nowI (n : Nat) (srt : Nat → σ) (us : Nat → List Nat) : Nat → List Nat
  | 0 => numL ((List.range n).map srt)
  | t + 1 => numL (keysI n us (nowI n srt us t))
def cntI (n : Nat) (srt : Nat → σ) (us : Nat → List Nat) : Nat → Nat
  | 0 => (firsts ((List.range n).map srt)).length
  | t + 1 => (firsts (keysI n us (nowI n srt us t))).length
/-- The reference's groups: by their first values. -/
def gS (srt : Nat → σ) (us : Nat → List Nat) (root : Nat → Nat) : Nat → Nat → Nat
  | 0 => leastS srt
  | t + 1 => leastS (fun v => (gS srt us root t v, srt v, (us v).map (fun u => gS srt us root t (root u))))
def keyS (srt : Nat → σ) (us : Nat → List Nat) (root : Nat → Nat) (t v : Nat) : Nat × σ × List Nat := (gS srt us root t v, srt v, (us v).map (fun u => gS srt us root t (root u)))
theorem gS_succ (srt : Nat → σ) (us : Nat → List Nat) (root : Nat → Nat) (t : Nat) : gS srt us root (t + 1) = leastS (keyS srt us root t) := rfl
structure Grp (n : Nat) (srt : Nat → σ) (us : Nat → List Nat) (root : Nat → Nat) : Prop where
  n2 : n ≤ 250
  rt : ∀ v, v < n → root v < n ∧ root (root v) = root v
  us : ∀ v, v < n → ∀ u ∈ us v, u < n
  cp : ∀ v w, v < n → w < n → root v ≠ v → srt v = srt w → v = w
theorem map_iff {α β γ : Type} {f : α → β} {g : α → γ} : ∀ {l m : List α}, (∀ a ∈ l, ∀ b ∈ m, (f a = f b ↔ g a = g b)) → (l.map f = m.map f ↔ l.map g = m.map g)
  | [], [], _ => by simp
  | [], _ :: _, _ => by simp
  | _ :: _, [], _ => by simp
  | a :: l, b :: m, h => by
    simp only [List.map_cons, List.cons.injEq]
    rw [h a List.mem_cons_self b List.mem_cons_self, map_iff (fun x hx y hy => h x (List.mem_cons_of_mem _ hx) y (List.mem_cons_of_mem _ hy))]
theorem u8_inj {a b : Nat} (ha : a < 256) (hb : b < 256) : UInt8.ofNat a = UInt8.ofNat b ↔ a = b := by
  constructor
  · intro h
    have := congrArg UInt8.toNat h
    simpa [UInt8.toNat_ofNat', Nat.mod_eq_of_lt ha, Nat.mod_eq_of_lt hb] using this
  · intro h; rw [h]
section
variable {n : Nat} {srt : Nat → σ} {us : Nat → List Nat} {root : Nat → Nat}
theorem gS_srt (t : Nat) {v w : Nat} (h : gS srt us root t v = gS srt us root t w) : srt v = srt w := by
  cases t with
  | zero => exact (leastS_iff srt v w).1 h
  | succ t =>
    rw [gS_succ] at h
    have := (leastS_iff _ v w).1 h
    simp only [keyS, Prod.mk.injEq] at this
    exact this.2.1
theorem gS_fine (t : Nat) {v w : Nat} (h : gS srt us root (t + 1) v = gS srt us root (t + 1) w) : gS srt us root t v = gS srt us root t w := by
  rw [gS_succ] at h
  have := (leastS_iff _ v w).1 h
  simp only [keyS, Prod.mk.injEq] at this
  exact this.1
theorem gS_le (t v : Nat) : gS srt us root t v ≤ v := by
  cases t with
  | zero => exact (leastS_spec srt v).1
  | succ t => rw [gS_succ]; exact (leastS_spec _ v).1
/-- The things that are numbered in a round. -/
theorem nowI_len (t : Nat) : (nowI n srt us t).length = n := by
  cases t <;> simp [nowI, numL_len, keysI]
theorem nowI_lt (t : Nat) {v : Nat} (hv : v < n) : (nowI n srt us t).getD v 0 < cntI n srt us t := by
  cases t with
  | zero => exact numL_lt (by simpa using hv)
  | succ t => exact numL_lt (by simpa [keysI] using hv)
theorem cntI_le (t : Nat) : cntI n srt us t ≤ n := by
  cases t with
  | zero => have := firsts_len ((List.range n).map srt); simpa [cntI] using this
  | succ t => have := firsts_len (keysI n us (nowI n srt us t)); simpa [cntI, keysI] using this
theorem nowI_zero_iff {v w : Nat} (hv : v < n) (hw : w < n) : (nowI n srt us 0).getD v 0 = (nowI n srt us 0).getD w 0 ↔ srt v = srt w := by
  have := numL_iff (l := (List.range n).map srt) (i := v) (j := w) (by simpa using hv) (by simpa using hw)
  simpa [nowI] using this
theorem nowI_succ_iff {t v w : Nat} (hv : v < n) (hw : w < n) : (nowI n srt us (t + 1)).getD v 0 = (nowI n srt us (t + 1)).getD w 0 ↔ keyI us (nowI n srt us t) v = keyI us (nowI n srt us t) w := by
  have := numL_iff (l := keysI n us (nowI n srt us t)) (i := v) (j := w) (by simpa [keysI] using hv) (by simpa [keysI] using hw)
  simpa [nowI, keysI] using this
theorem nowI_fine {t v w : Nat} (hv : v < n) (hw : w < n) (h : (nowI n srt us (t + 1)).getD v 0 = (nowI n srt us (t + 1)).getD w 0) : (nowI n srt us t).getD v 0 = (nowI n srt us t).getD w 0 := by
  have := (nowI_succ_iff hv hw).1 h
  simp only [keyI, Prod.mk.injEq] at this
  exact this.1
theorem sim (h : Grp n srt us root) (t : Nat) : ∀ v w, v < n → w < n → ((nowI n (fun v => srt (root v)) (fun v => us (root v)) t).getD v 0 = (nowI n (fun v => srt (root v)) (fun v => us (root v)) t).getD w 0 ↔ gS srt us root t (root v) = gS srt us root t (root w)) := by
  induction t with
  | zero =>
    intro v w hv hw
    rw [nowI_zero_iff hv hw]
    exact (leastS_iff srt _ _).symm
  | succ t ih =>
    intro v w hv hw
    rw [nowI_succ_iff hv hw, gS_succ, leastS_iff]
    simp only [keyI, keyS, Prod.mk.injEq]
    have hm : ((us (root v)).map (fun u => UInt8.ofNat ((nowI n (fun v => srt (root v)) (fun v => us (root v)) t).getD u 0)) = (us (root w)).map (fun u => UInt8.ofNat ((nowI n (fun v => srt (root v)) (fun v => us (root v)) t).getD u 0))) ↔
        ((us (root v)).map (fun u => gS srt us root t (root u)) = (us (root w)).map (fun u => gS srt us root t (root u))) := by
      refine map_iff (fun a ha b hb => ?_)
      have ha' := h.us _ (h.rt v hv).1 a ha
      have hb' := h.us _ (h.rt w hw).1 b hb
      have h1 := nowI_lt (srt := fun v => srt (root v)) (us := fun v => us (root v)) t ha'
      have h2 := nowI_lt (srt := fun v => srt (root v)) (us := fun v => us (root v)) t hb'
      have h3 := cntI_le (n := n) (srt := fun v => srt (root v)) (us := fun v => us (root v)) t
      have h4 := h.n2
      rw [u8_inj (by omega) (by omega)]
      exact ih a b ha' hb'
    rw [hm, ih v w hv hw]
    exact ⟨fun hh => ⟨hh.1, gS_srt t hh.1, hh.2⟩, fun hh => ⟨hh.1, hh.2.2⟩⟩
def StopI (n : Nat) (srt : Nat → σ) (us : Nat → List Nat) (t : Nat) : Prop := cntI n srt us (t + 1) = cntI n srt us t
def StopS (n : Nat) (srt : Nat → σ) (us : Nat → List Nat) (root : Nat → Nat) (t : Nat) : Prop := ∀ v, v < n → gS srt us root (t + 1) v = gS srt us root t v
theorem stopI_iff (t : Nat) : StopI n srt us t ↔ ∀ v w, v < n → w < n → (nowI n srt us t).getD v 0 = (nowI n srt us t).getD w 0 → (nowI n srt us (t + 1)).getD v 0 = (nowI n srt us (t + 1)).getD w 0 := by
  unfold StopI
  cases t with
  | zero =>
    have key := firsts_eq_iff (l := (List.range n).map srt) (m := keysI n us (nowI n srt us 0)) (by simp [keysI]) (fun i j hi hj hij => by
      have hi' : i < n := by simpa using hi
      have hj' : j < n := by simpa using hj
      have := nowI_fine hi' hj' ((nowI_succ_iff hi' hj').2 (by simpa [keysI] using hij))
      simpa using (nowI_zero_iff hi' hj').1 this)
    show (firsts (keysI n us (nowI n srt us 0))).length = (firsts ((List.range n).map srt)).length ↔ _
    rw [key]
    constructor
    · intro h v w hv hw hvw
      have := h v w (by simpa using hv) (by simpa using hw) (by simpa using (nowI_zero_iff hv hw).1 hvw)
      exact (nowI_succ_iff hv hw).2 (by simpa [keysI] using this)
    · intro h i j hi hj hij
      have hi' : i < n := by simpa using hi
      have hj' : j < n := by simpa using hj
      have := (nowI_succ_iff hi' hj').1 (h i j hi' hj' ((nowI_zero_iff hi' hj').2 (by simpa using hij)))
      simpa [keysI] using this
  | succ t =>
    have key := firsts_eq_iff (l := keysI n us (nowI n srt us t)) (m := keysI n us (nowI n srt us (t + 1))) (by simp [keysI]) (fun i j hi hj hij => by
      have hi' : i < n := by simpa [keysI] using hi
      have hj' : j < n := by simpa [keysI] using hj
      have := nowI_fine hi' hj' ((nowI_succ_iff hi' hj').2 (by simpa [keysI] using hij))
      simpa [keysI] using (nowI_succ_iff hi' hj').1 this)
    show (firsts (keysI n us (nowI n srt us (t + 1)))).length = (firsts (keysI n us (nowI n srt us t))).length ↔ _
    rw [key]
    constructor
    · intro h v w hv hw hvw
      have := h v w (by simpa [keysI] using hv) (by simpa [keysI] using hw) (by simpa [keysI] using (nowI_succ_iff hv hw).1 hvw)
      exact (nowI_succ_iff hv hw).2 (by simpa [keysI] using this)
    · intro h i j hi hj hij
      have hi' : i < n := by simpa [keysI] using hi
      have hj' : j < n := by simpa [keysI] using hj
      have := (nowI_succ_iff hi' hj').1 (h i j hi' hj' ((nowI_succ_iff hi' hj').2 (by simpa [keysI] using hij)))
      simpa [keysI] using this
theorem cntI_mono (t : Nat) : cntI n srt us t ≤ cntI n srt us (t + 1) := by
  cases t with
  | zero =>
    exact firsts_le (l := (List.range n).map srt) (m := keysI n us (nowI n srt us 0)) (by simp [keysI]) (fun i j hi hj hij => by
      have hi' : i < n := by simpa using hi
      have hj' : j < n := by simpa using hj
      have := nowI_fine hi' hj' ((nowI_succ_iff hi' hj').2 (by simpa [keysI] using hij))
      simpa using (nowI_zero_iff hi' hj').1 this)
  | succ t =>
    exact firsts_le (l := keysI n us (nowI n srt us t)) (m := keysI n us (nowI n srt us (t + 1))) (by simp [keysI]) (fun i j hi hj hij => by
      have hi' : i < n := by simpa [keysI] using hi
      have hj' : j < n := by simpa [keysI] using hj
      have := nowI_fine hi' hj' ((nowI_succ_iff hi' hj').2 (by simpa [keysI] using hij))
      simpa [keysI] using (nowI_succ_iff hi' hj').1 this)
/-- gS is by least places of one key or other. -/
theorem gS_rel {t : Nat} (hh : ∀ v w, v < n → w < n → gS srt us root t v = gS srt us root t w → gS srt us root (t + 1) v = gS srt us root (t + 1) w) : StopS n srt us root t := by
  intro v hv
  have hiff : ∀ v w, v < n → w < n → (gS srt us root (t + 1) v = gS srt us root (t + 1) w ↔ gS srt us root t v = gS srt us root t w) := fun v w hv hw => ⟨gS_fine t, hh v w hv hw⟩
  cases t with
  | zero =>
    show leastS (keyS srt us root 0) v = leastS srt v
    exact leastS_congr (fun v w hv hw => by
      have := hiff v w hv hw
      rw [gS_succ, leastS_iff] at this
      exact this.trans (leastS_iff srt v w)) hv
  | succ t =>
    rw [gS_succ, gS_succ]
    exact leastS_congr (fun v w hv hw => by
      have := hiff v w hv hw
      rw [gS_succ, leastS_iff, gS_succ, leastS_iff] at this
      exact this) hv
theorem stop_iff (h : Grp n srt us root) (t : Nat) : StopI n (fun v => srt (root v)) (fun v => us (root v)) t ↔ StopS n srt us root t := by
  rw [stopI_iff]
  constructor
  · intro hi
    refine gS_rel fun v w hv hw hvw => ?_
    by_cases h1 : root v = v
    · by_cases h2 : root w = w
      · have := hi v w hv hw ((sim h t v w hv hw).2 (by rw [h1, h2]; exact hvw))
        have := (sim h (t + 1) v w hv hw).1 this
        rwa [h1, h2] at this
      · have := h.cp w v hw hv h2 (gS_srt t hvw).symm
        rw [this]
    · have := h.cp v w hv hw h1 (gS_srt t hvw)
      rw [this]
  · intro hs v w hv hw hvw
    have := (sim h t v w hv hw).1 hvw
    refine (sim h (t + 1) v w hv hw).2 ?_
    rw [hs _ (h.rt v hv).1, hs _ (h.rt w hw).1, this]
/-- What the program hands back is what the reference numbers. -/
theorem num_is (h : Grp n srt us root) (t : Nat) : numL ((List.range n).map (fun v => gS srt us root t (root v))) = nowI n (fun v => srt (root v)) (fun v => us (root v)) t := by
  cases t with
  | zero =>
    refine (num_congr (by simp) (fun i j hi hj => ?_)).1
    have hi' : i < n := by simpa using hi
    have hj' : j < n := by simpa using hj
    have := (sim h 0 i j hi' hj').symm.trans (nowI_zero_iff hi' hj')
    simpa using this
  | succ t =>
    refine (num_congr (by simp [keysI]) (fun i j hi hj => ?_)).1
    have hi' : i < n := by simpa using hi
    have hj' : j < n := by simpa using hj
    have := (sim h (t + 1) i j hi' hj').symm.trans (nowI_succ_iff hi' hj')
    simpa [keysI] using this
def First (P : Nat → Prop) (t : Nat) : Prop := P t ∧ ∀ q, q < t → ¬ P q
theorem First.uniq {P Q : Nat → Prop} (h : ∀ t, P t ↔ Q t) {t u : Nat} (ht : First P t) (hu : First Q u) : t = u := by
  rcases Nat.lt_trichotomy t u with hh | hh | hh
  · exact absurd ((h t).1 ht.1) (hu.2 t hh)
  · exact hh
  · exact absurd ((h u).2 hu.1) (ht.2 u hh)
/-- How many groups the reference has in a round. -/
def cntS (n : Nat) (srt : Nat → σ) (us : Nat → List Nat) (root : Nat → Nat) (t : Nat) : Nat := (firsts ((List.range n).map (gS srt us root t))).length
theorem cntS_le (t : Nat) : cntS n srt us root t ≤ n := by have := firsts_len ((List.range n).map (gS srt us root t)); simpa [cntS] using this
theorem cntS_lt {t : Nat} (hn : ¬ StopS n srt us root t) : cntS n srt us root t < cntS n srt us root (t + 1) := by
  have hf : ∀ (i j : Nat) (hi : i < ((List.range n).map (gS srt us root t)).length) (hj : j < ((List.range n).map (gS srt us root t)).length), ((List.range n).map (gS srt us root (t + 1)))[i]'(by simpa using hi) = ((List.range n).map (gS srt us root (t + 1)))[j]'(by simpa using hj) → ((List.range n).map (gS srt us root t))[i] = ((List.range n).map (gS srt us root t))[j] := by
    intro i j hi hj hij
    simp only [List.getElem_map, List.getElem_range] at hij ⊢
    exact gS_fine t hij
  have h1 := firsts_le (by simp) hf
  have h2 := firsts_eq_iff (by simp) hf
  unfold cntS
  rcases Nat.lt_or_eq_of_le h1 with h | h
  · exact h
  · refine absurd (gS_rel fun v w hv hw hvw => ?_) hn
    have := h2.1 h.symm v w (by simpa using hv) (by simpa using hw) (by simpa using hvw)
    simpa using this
end
end
/-- The least place with the same key, looked for from above: behind n steps. -/
def lowF {κ : Type} [DecidableEq κ] (f : Nat → κ) (v : Nat) : Nat → Nat
  | 0 => v
  | n + 1 => if f (v - (n + 1)) = f v then v - (n + 1) else lowF f v n
theorem lowF_spec {κ : Type} [DecidableEq κ] (f : Nat → κ) (v : Nat) : ∀ n, n ≤ v → v - n ≤ lowF f v n ∧ lowF f v n ≤ v ∧ f (lowF f v n) = f v ∧ ∀ w, v - n ≤ w → w < lowF f v n → f w ≠ f v := by
  intro n
  induction n with
  | zero => intro _; exact ⟨Nat.le_refl _, Nat.le_refl _, rfl, fun w h1 h2 => by simp [lowF] at h2; omega⟩
  | succ n ih =>
    intro hn
    obtain ⟨h1, h2, h3, h4⟩ := ih (by omega)
    unfold lowF
    split
    · rename_i h
      exact ⟨Nat.le_refl _, by omega, h, fun w a b => by omega⟩
    · rename_i h
      refine ⟨by omega, h2, h3, fun w a b => ?_⟩
      by_cases hw : w = v - (n + 1)
      · rw [hw]; exact h
      · exact h4 w (by omega) b
theorem lowF_all {κ : Type} [DecidableEq κ] (f : Nat → κ) (v : Nat) : lowF f v v = leastS f v := by
  obtain ⟨h1, h2, h3, h4⟩ := lowF_spec f v v (Nat.le_refl _)
  obtain ⟨a1, a2, a3⟩ := leastS_spec f v
  rcases Nat.lt_trichotomy (lowF f v v) (leastS f v) with hh | hh | hh
  · exact absurd h3 (a3 _ hh)
  · exact hh
  · exact absurd a2 (h4 _ (by omega) hh)
theorem lowF_at {κ : Type} [DecidableEq κ] (f : Nat → κ) {v n m : Nat} (hm : m + n + 1 = v) : lowF f v (n + 1) = if f m = f v then m else lowF f v n := by
  have e : v - (n + 1) = m := by omega
  rw [lowF, e]
theorem lowF_le {κ : Type} [DecidableEq κ] (f : Nat → κ) (v n : Nat) : lowF f v n ≤ v := by
  induction n with
  | zero => exact Nat.le_refl _
  | succ n ih => unfold lowF; split <;> omega
/-- The first k are told. -/
def tellTo (N : Nat) (g : Nat → Nat) (k : Nat) : List Int := (List.range N).map (fun v => if v < k then ((g v : Nat) : Int) else 0)
theorem tellTo_len (N : Nat) (g : Nat → Nat) (k : Nat) : (tellTo N g k).length = N := by simp [tellTo]
theorem tellTo_zero (N : Nat) (g : Nat → Nat) : tellTo N g 0 = List.replicate N 0 := by
  apply List.ext_getElem
  · simp [tellTo]
  · intro i h1 h2; simp [tellTo]
theorem tellTo_set {N : Nat} {g : Nat → Nat} {k : Nat} (hk : k < N) (x : Int) (h : x = ((g k : Nat) : Int)) : (tellTo N g k).set k x = tellTo N g (k + 1) := by
  apply List.ext_getElem
  · simp [tellTo]
  · intro i h1 h2
    rw [List.getElem_set]
    simp only [tellTo, List.getElem_map, List.getElem_range]
    by_cases hik : k = i
    · subst hik; simp [h]
    · rw [if_neg hik]
      by_cases h3 : i < k
      · rw [if_pos h3, if_pos (by omega)]
      · rw [if_neg h3, if_neg (by omega)]
theorem tellTo_all (N : Nat) (g : Nat → Nat) : tellTo N g N = (List.range N).map (fun v => ((g v : Nat) : Int)) := by
  unfold tellTo
  refine List.map_congr_left fun v hv => ?_
  rw [if_pos (List.mem_range.1 hv)]
end Go.Proofs.Ytnfaibenekninaa.L
