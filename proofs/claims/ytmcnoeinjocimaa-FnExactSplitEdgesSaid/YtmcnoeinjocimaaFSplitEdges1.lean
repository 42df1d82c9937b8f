/- Joined texts, each of which was built by itself: Cl0 Ho1 Mr5 Mr6 Px1 Px3 Px2 Px4. -/
import Derived.Test.YtmcnoeinjocimaaB11
import Derived.Test.YtmcnoeinjocimaaB1
import Derived.Test.YtmcnoeinjocimaaB3
import Derived.Test.YtmcnoeinjocimaaB10
set_option linter.unusedVariables false
set_option linter.unusedSimpArgs false
namespace Go.Proofs.Ytmcnoeinjocimaa.L
open Go.RowKit
theorem ow_allocE {α : Type} {e n : Nat} {r : Rp α} (W : World) {z : Value} {x0 : α} (hn : n ≤ 9223372036854775807) (h1 : r.sz = 1) (hx : ∀ w, r.K w (fun _ => False) x0 [z]) :
    Ow true e r (W.alloc (.cells (madeCells #[z] n) e)) (fun k => k = W.heap.size) (.slice (some ⟨W.heap.size, 0, none⟩) n n) (List.replicate n x0) := by
  have h := ow_alloc (e := e) (n := n) (r := r) W (z := #[z]) (x0 := x0) hn h1.symm (by omega) hx
  rw [h1, Nat.mul_one] at h
  exact h
theorem putRow_one (w : World) (g o : Nat) (u : Value) : putRow w g o [u] = w.setCell ⟨g, o, none⟩ u := rfl
/-- A row stored that may lead to what the others lead to. -/
theorem Ow.put_loose {α : Type} {e : Nat} {r : Rp α} {w : World} {F G : Nat → Prop} {l : List α} {g n c : Nat} (h : Ow false e r w F (.slice (some ⟨g, 0, none⟩) n c) l) (h1 : r.sz = 1) {i : Nat} (hi : i < l.length) {y : α} {u : Value} (hy : r.K w G y [u]) (hG : ∀ k, G k → k ≠ g) :
    Ow false e r (w.setCell ⟨g, i, none⟩ u) (fun k => F k ∨ G k) (.slice (some ⟨g, 0, none⟩) n c) (l.set i y) := by
  obtain rfl := h.len_eq
  obtain ⟨φ, xs, k1, h2, h3, h4, h5⟩ := h
  have hg : F g := h2 g (by simp [Value.ownBlock])
  have hp := putRow_owns [u] w xs (i * r.sz) k1
  have hus : [u].length = r.sz := h1.symm
  rw [show w.setCell ⟨g, i, none⟩ u = putRow w g (i * r.sz) [u] by rw [h1, Nat.mul_one]; rfl]
  refine ⟨fun j k => if j = i then G k else φ j k, seg xs (i * r.sz) [u], by rw [List.length_set]; exact hp.1, fun k hk => .inl (h2 k hk), ?_, (fun h => by cases h), ?_⟩
  · intro j k hk
    split at hk
    · exact ⟨.inr hk, fun he => hG k hk (by simpa [Value.ownBlock, eq_comm] using he)⟩
    · exact ⟨.inl (h3 j k hk).1, (h3 j k hk).2⟩
  · intro j x hx
    rw [List.getElem?_set] at hx
    have hjl : j < l.length := by
      rcases Nat.lt_or_ge j l.length with hh | hh
      · exact hh
      · split at hx
        · omega
        · rw [List.getElem?_eq_none hh] at hx; cases hx
    rw [seg_drop k1.1 hi hus j hjl]
    by_cases hji : j = i
    · subst hji
      rw [if_pos rfl, if_pos hi] at hx
      cases hx
      simp only [if_true]
      refine r.move (fun k hk hlt => hp.2.block k hlt (fun he => by cases he; exact hG _ hk rfl)) hy
    · rw [if_neg (fun h => hji h.symm)] at hx
      simp only [if_neg hji]
      refine r.move (fun k hk hlt => hp.2.block k hlt (fun he => by cases he; exact (h3 j _ hk).2 (by simp [Value.ownBlock]))) (h5 j x hx)
end Go.Proofs.Ytmcnoeinjocimaa.L

set_option linter.unusedVariables false
set_option linter.unusedSimpArgs false
namespace Go.Proofs.Ytmcnoeinjocimaa.L
open Go.RowKit
/-- The row but for element k, whose cells are us; what the others lead to lies in F, and so does the row's block. -/
def Hole {α : Type} (e : Nat) (r : Rp α) (w : World) (F : Nat → Prop) (g n c : Nat) (l : List α) (k : Nat) (us : List Value) : Prop :=
  ∃ (φ : Nat → Nat → Prop) (xs : List Value), w.ownsRow 0 e r.sz (.slice (some ⟨g, 0, none⟩) n c) n xs ∧ n = l.length ∧ k < n ∧ us.length = r.sz ∧ (xs.drop (k * r.sz)).take r.sz = us ∧ F g ∧ (∀ i q, φ i q → F q ∧ q ≠ g) ∧
    (∀ i j q, φ i q → φ j q → i = j) ∧ ∀ i x, i ≠ k → l[i]? = some x → r.K w (φ i) x ((xs.drop (i * r.sz)).take r.sz)
section
variable {α : Type} {e : Nat} {r : Rp α} {w w' : World} {F G : Nat → Prop} {g n c k : Nat} {l : List α} {us : List Value}
theorem Ow.hole (h : Ow true e r w F (.slice (some ⟨g, 0, none⟩) n c) l) (hk : k < l.length) :
    ∃ Fr Gk us, (∀ q, Fr q → F q) ∧ (∀ q, Gk q → F q ∧ ¬ Fr q ∧ q ≠ g) ∧ r.K w Gk l[k] us ∧ Hole e r w Fr g n c l k us := by
  obtain rfl := h.len_eq
  obtain ⟨φ, xs, h1, h2, h3, h4, h5⟩ := h
  have hg : F g := h2 g (by simp [Value.ownBlock])
  have h3' : ∀ i q, φ i q → F q ∧ q ≠ g := fun i q hq => ⟨(h3 i q hq).1, fun he => (h3 i q hq).2 (by simp [Value.ownBlock, he])⟩
  refine ⟨fun q => q = g ∨ ∃ i, i ≠ k ∧ φ i q, φ k, _, fun q hq => ?_, fun q hq => ⟨(h3' k q hq).1, fun hr => ?_, (h3' k q hq).2⟩, h5 k _ (List.getElem?_eq_getElem hk), ?_⟩
  · rcases hq with rfl | ⟨i, _, hq⟩
    · exact hg
    · exact (h3' i q hq).1
  · rcases hr with rfl | ⟨i, hi, hr⟩
    · exact (h3' k _ hq).2 rfl
    · exact hi (h4 rfl i k q hr hq)
  · refine ⟨fun i q => i ≠ k ∧ φ i q, xs, h1, rfl, hk, r.len (h5 k _ (List.getElem?_eq_getElem hk)), rfl, .inl rfl, fun i q hq => ⟨.inr ⟨i, hq.1, hq.2⟩, (h3' i q hq.2).2⟩, fun i j q hi hj => h4 rfl i j q hi.2 hj.2, fun i x hi hx => r.mono (fun q hq => ⟨hi, hq⟩) (h5 i x hx)⟩
namespace Hole
theorem mono (hF : ∀ q, F q → G q) (h : Hole e r w F g n c l k us) : Hole e r w G g n c l k us := by
  obtain ⟨φ, xs, h1, h2, h3, h4, h5, h6, h7, h8, h9⟩ := h
  exact ⟨φ, xs, h1, h2, h3, h4, h5, hF _ h6, fun i q hq => ⟨hF _ (h7 i q hq).1, (h7 i q hq).2⟩, h8, h9⟩
theorem move (hF : Same F w w') (h : Hole e r w F g n c l k us) : Hole e r w' F g n c l k us := by
  obtain ⟨φ, xs, h1, h2, h3, h4, h5, h6, h7, h8, h9⟩ := h
  exact ⟨φ, xs, owns_move h1 (fun q hq => by have hq : g = q := by simpa [Value.ownBlock] using hq
                                             subst hq; exact hF _ h6 (owns_lt h1 (by simp [Value.ownBlock]))), h2, h3, h4, h5, h6, h7, h8, fun i x hi hx => r.move (fun q hq hlt => hF q (h7 i q hq).1 hlt) (h9 i x hi hx)⟩
theorem below (hb : Below w.heap.size w w') (h : Hole e r w F g n c l k us) : Hole e r w' F g n c l k us := h.move (Same.of_below hb F)
theorem chg {A : Nat → Prop} (hb : Chg A w w') (hA : ∀ q, A q → ¬ F q) (h : Hole e r w F g n c l k us) : Hole e r w' F g n c l k us := h.move (hb.same (fun q hq ha => hA q ha hq))
theorem lt (h : Hole e r w F g n c l k us) : F g ∧ g < w.heap.size := by
  obtain ⟨φ, xs, h1, h2, h3, h4, h5, h6, h7, h8, h9⟩ := h
  exact ⟨h6, owns_lt h1 (by simp [Value.ownBlock])⟩
theorem len (h : Hole e r w F g n c l k us) : n = l.length ∧ k < n ∧ us.length = r.sz := by
  obtain ⟨φ, xs, h1, h2, h3, h4, h5, h6, h7, h8, h9⟩ := h
  exact ⟨h2, h3, h4⟩
theorem cell (h : Hole e r w F g n c l k us) : (∀ j u, us[j]? = some u → w.cell? ⟨g, k * r.sz + j, none⟩ = some u) ∧ ∀ o, w.frozen? ⟨g, o, none⟩ = false := by
  obtain ⟨φ, xs, h1, h2, h3, h4, h5, h6, h7, h8, h9⟩ := h
  refine ⟨fun j u hu => ?_, fun o => h1.frozenAt o⟩
  have hj : j < r.sz := by rw [← h4]; exact (List.getElem?_eq_some_iff.1 hu).1
  rw [← h5, List.getElem?_take, if_pos hj, List.getElem?_drop] at hu
  have hlt : k * r.sz + j < n * r.sz := by
    calc k * r.sz + j < k * r.sz + r.sz := by omega
      _ = (k + 1) * r.sz := by rw [Nat.succ_mul]
      _ ≤ n * r.sz := Nat.mul_le_mul_right _ h3
  rw [h1.cellAt _ hlt]
  exact hu
/-- A cell of the element is stored anew. -/
theorem set (h : Hole e r w F g n c l k us) {j : Nat} (hj : j < r.sz) (u : Value) : Hole e r (w.setCell ⟨g, k * r.sz + j, none⟩ u) F g n c l k (us.set j u) := by
  obtain ⟨φ, xs, h1, h2, h3, h4, h5, h6, h7, h8, h9⟩ := h
  have hp := h1.stored (k * r.sz + j) u
  have hx := h1.1
  have hle : k * r.sz + r.sz ≤ n * r.sz := by
    calc k * r.sz + r.sz = (k + 1) * r.sz := by rw [Nat.succ_mul]
      _ ≤ n * r.sz := Nat.mul_le_mul_right _ h3
  refine ⟨φ, xs.set (k * r.sz + j) u, hp.1, h2, h3, by rw [List.length_set]; exact h4, ?_, h6, h7, h8, fun i x hi hx' => ?_⟩
  · rw [← h5]
    apply List.ext_getElem?
    intro q
    rw [List.getElem?_take]
    by_cases hq : q < r.sz
    · rw [if_pos hq, List.getElem?_drop, List.getElem?_set, List.getElem?_set, List.getElem?_take, if_pos hq, List.getElem?_drop, List.length_take, List.length_drop]
      by_cases hjq : j = q
      · subst hjq
        rw [if_pos rfl, if_pos rfl, if_pos (by omega), if_pos (by omega)]
      · rw [if_neg (by omega), if_neg hjq]
    · rw [if_neg hq, List.getElem?_eq_none]
      rw [List.length_set, List.length_take]; omega
  · have hil : i < n := by rw [h2]; exact (List.getElem?_eq_some_iff.1 hx').1
    have he : ((xs.set (k * r.sz + j) u).drop (i * r.sz)).take r.sz = (xs.drop (i * r.sz)).take r.sz := by
      apply List.ext_getElem?
      intro q
      rw [List.getElem?_take, List.getElem?_take]
      by_cases hq : q < r.sz
      · rw [if_pos hq, if_pos hq, List.getElem?_drop, List.getElem?_drop, List.getElem?_set, if_neg]
        rcases Nat.lt_or_gt_of_ne hi with h | h
        · have : (i + 1) * r.sz ≤ k * r.sz := Nat.mul_le_mul_right _ h
          rw [Nat.succ_mul] at this; omega
        · have : (k + 1) * r.sz ≤ i * r.sz := Nat.mul_le_mul_right _ h
          rw [Nat.succ_mul] at this; omega
      · rw [if_neg hq, if_neg hq]
    rw [he]
    exact r.move (fun q hq hlt => heap_setCell_other w ⟨g, k * r.sz + j, none⟩ q u (fun he => (h7 i q hq).2 he)) (h9 i x hi hx')
/-- The element is put back, or another one in its place. -/
theorem close (h : Hole e r w F g n c l k us) {y : α} (hy : r.K w G y us) (hG : ∀ q, G q → ¬ F q) : Ow true e r w (fun q => F q ∨ G q) (.slice (some ⟨g, 0, none⟩) n c) (l.set k y) := by
  obtain ⟨φ, xs, h1, h2, h3, h4, h5, h6, h7, h8, h9⟩ := h
  subst h2
  refine ⟨fun i q => if i = k then G q else φ i q, xs, by rw [List.length_set]; exact h1, fun q hq => ?_, fun i q hq => ?_, fun _ i j q hi hj => ?_, fun i x hx => ?_⟩
  · have hq : g = q := by simpa [Value.ownBlock] using hq
    subst hq; exact .inl h6
  · have hn : q ≠ g → (Value.slice (some ⟨g, 0, none⟩) l.length c).ownBlock ≠ some q := fun h he => h (by simpa [Value.ownBlock, eq_comm] using he)
    dsimp only at hq
    split at hq
    · exact ⟨.inr hq, hn (fun he => by subst he; exact hG _ hq h6)⟩
    · exact ⟨.inl (h7 i q hq).1, hn (h7 i q hq).2⟩
  · dsimp only at hi hj
    split at hi <;> split at hj
    · omega
    · exact absurd (h7 j q hj).1 (hG q hi)
    · exact absurd (h7 i q hi).1 (hG q hj)
    · exact h8 i j q hi hj
  · rw [List.getElem?_set] at hx
    by_cases hi : i = k
    · subst hi
      rw [if_pos rfl, if_pos h3] at hx
      cases hx
      simp only [if_true]
      rw [h5]; exact hy
    · rw [if_neg (fun h => hi h.symm)] at hx
      simp only [if_neg hi]
      exact h9 i x hi hx
theorem set0 {s : Nat} (h : Hole e r w F g n c l k us) (hs : r.sz = s) (h0 : 0 < s) (u : Value) : Hole e r (w.setCell ⟨g, k * s, none⟩ u) F g n c l k (us.set 0 u) := by
  subst hs; exact h.set h0 u
theorem setj {s j : Nat} (h : Hole e r w F g n c l k us) (hs : r.sz = s) (hj : j < s) (u : Value) : Hole e r (w.setCell ⟨g, k * s + j, none⟩ u) F g n c l k (us.set j u) := by
  subst hs; exact h.set hj u
theorem cell0 {s : Nat} {u : Value} (h : Hole e r w F g n c l k us) (hs : r.sz = s) (hu : us[0]? = some u) : w.cell? ⟨g, k * s, none⟩ = some u := by
  subst hs; exact h.cell.1 0 u hu
theorem cellj {s : Nat} (j : Nat) {u : Value} (h : Hole e r w F g n c l k us) (hs : r.sz = s) (hu : us[j]? = some u) : w.cell? ⟨g, k * s + j, none⟩ = some u := by
  subst hs; exact h.cell.1 j u hu
theorem set1 (h : Hole e r w F g n c l k us) (hs : r.sz = 1) (u : Value) : Hole e r (w.setCell ⟨g, k, none⟩ u) F g n c l k (us.set 0 u) := by
  have := h.set0 hs (by omega) u
  rwa [Nat.mul_one] at this
theorem cell1 {u : Value} (h : Hole e r w F g n c l k us) (hs : r.sz = 1) (hu : us[0]? = some u) : w.cell? ⟨g, k, none⟩ = some u := by
  have := h.cell0 hs hu
  rwa [Nat.mul_one] at this
theorem free (h : Hole e r w F g n c l k us) (o : Nat) : w.frozen? ⟨g, o, none⟩ = false := h.cell.2 o
end Hole
/-- A row of one element, from its block. -/
theorem ow_lit1 {y : α} {u : Value} {b : Nat} (h : w.heap[b]? = some (.cells #[u] e (0, 0))) (hs : r.sz = 1) (hy : r.K w G y [u]) (hG : ∀ q, G q → q ≠ b) : Ow true e r w (fun q => q = b ∨ G q) (.slice (some ⟨b, 0, none⟩) 1 1) [y] := by
  refine ⟨fun i q => i = 0 ∧ G q, [u], ?_, fun q hq => by simp [Value.ownBlock] at hq; exact .inl hq.symm, fun i q hq => ⟨.inr hq.2, fun he => by simp [Value.ownBlock] at he; exact hG q hq.2 he.symm⟩, fun _ i j q hi hj => by rw [hi.1, hj.1], fun i x hx => ?_⟩
  · rw [hs]
    exact ⟨by simp, .inr ⟨b, 1, #[u], rfl, Nat.zero_le _, h, Nat.le_refl _, by unfold maxLen; omega, by simp, rfl⟩⟩
  · match i, hx with
    | 0, hx =>
      simp at hx; subst hx
      rw [hs]; exact r.mono (fun q hq => ⟨rfl, hq⟩) hy
    | i + 1, hx => simp at hx
end
end Go.Proofs.Ytmcnoeinjocimaa.L

set_option linter.unusedVariables false
set_option linter.unusedSimpArgs false
namespace Go.Proofs.Ytmcnoeinjocimaa.L
open Go.RowKit
def mkFl (z : Int) : Fl := ⟨z, z + 1, z + 1 + 1, z + 1 + 1 + 1, z + 1 + 1 + 1 + 1, z + 1 + 1 + 1 + 1 + 1⟩
def upF (k : Int) (n : Nat) : List Fl := (List.range n).map (fun i : Nat => mkFl (k + 6 * i))
theorem upF_len (k : Int) (n : Nat) : (upF k n).length = n := by unfold upF; simp
theorem upF_succ (k : Int) (n : Nat) : upF k (n + 1) = upF k n ++ [mkFl (k + 6 * n)] := by unfold upF; rw [List.range_succ, List.map_append]; rfl
theorem upF_get {k : Int} {n i : Nat} (hi : i < (upF k n).length) : (upF k n)[i] = mkFl (k + 6 * i) := by simp [upF]
theorem upF_set {k : Int} {m : Nat} {l : List Fl} (hm : m < l.length) : (upF k m ++ l.drop m).set m (mkFl (k + 6 * m)) = upF k (m + 1) ++ l.drop (m + 1) := by
  rw [List.drop_eq_getElem_cons hm, List.set_append_right _ _ (by rw [upF_len]; exact Nat.le_refl _), upF_len, Nat.sub_self, List.set_cons_zero, upF_succ, List.append_assoc]
  rfl
theorem flat_sz : flat.sz = 6 := rfl
set_option maxRecDepth 100000 in
set_option maxHeartbeats 4000000 in
theorem markF_own {F : Nat → Prop} (v : Value) (l : List Fl) (k : Int) (w : World) (h : Ow true 61 flat w F v l) (hk : 0 ≤ k) (hk2 : k + 6 * l.length ≤ 4611686018427387904) :
    Calls Try.prog 88 #[v, .int .i64 k] w fun e w' => e = .returned (.int .i64 (k + 6 * l.length)) ∧ Ow true 61 flat w' F v (upF k l.length) ∧ Chg F w w' := by
  obtain ⟨A, c, rfl, hc1, hc2⟩ := h.form
  have hA : l.length = 0 ∨ ∃ g, A = some ⟨g, 0, none⟩ ∧ F g := by
    by_cases hn : l.length = 0
    · exact .inl hn
    obtain ⟨g, c0, cs0, he0, hF0, _, _, _, hz0⟩ := h.at_ (List.getElem?_eq_getElem (show 0 < l.length by omega))
    cases he0
    exact .inr ⟨g, rfl, hF0⟩
  generalize hN : l.length = N at *
  go_enter Try.func88, Try.ntmps88
  go_wp2
  go_loopw [1, 5] (fun z i wr => ∃ m : Nat, m ≤ N ∧ i = .int .i64 m ∧ z = .int .i64 (k + 6 * m) ∧ Ow true 61 flat wr F (.slice A N c) (upF k m ++ l.drop m) ∧ Chg F w wr) (fun _ i _ => N - (intOf i).toNat)
  case atStart => exact ⟨0, Nat.zero_le _, rfl, by go_num, h, Chg.refl _ _⟩
  case round =>
    obtain ⟨m, hm, rfl, rfl, HO, HM⟩ := hrel
    rename World => wo
    by_cases hlt : m < N
    · rcases hA with hA | ⟨g, rfl, hF0⟩
      · omega
      have hml : m < (upF k m ++ l.drop m).length := by rw [List.length_append, upF_len, List.length_drop]; omega
      obtain ⟨Fr, Gk, us, hFr, hGk, hK, H0⟩ := HO.hole hml
      obtain rfl := flat_open hK
      have hU := Lib.hid (upF_set (k := k) (show m < l.length by omega))
      generalize (upF k m ++ l.drop m)[m] = x at *
      obtain ⟨z, hz⟩ : ∃ z : Int, z = k + 6 * m := ⟨_, rfl⟩
      rw [← hz] at hU
      have H1 := H0.set0 flat_sz (by omega) (.int .i64 z)
      have H2 := H1.setj (j := 1) flat_sz (by omega) (.int .i64 (z + 1))
      have H3 := H2.setj (j := 2) flat_sz (by omega) (.int .i64 (z + 1 + 1))
      have H4 := H3.setj (j := 3) flat_sz (by omega) (.int .i64 (z + 1 + 1 + 1))
      have H5 := H4.setj (j := 4) flat_sz (by omega) (.int .i64 (z + 1 + 1 + 1 + 1))
      have H6 := H5.setj (j := 5) flat_sz (by omega) (.int .i64 (z + 1 + 1 + 1 + 1 + 1))
      have hx0 := H0.cell0 flat_sz rfl
      have hx1 := H1.cellj 1 flat_sz rfl
      have hx2 := H2.cellj 2 flat_sz rfl
      have hx3 := H3.cellj 3 flat_sz rfl
      have hx4 := H4.cellj 4 flat_sz rfl
      have hx5 := H5.cellj 5 flat_sz rfl
      have hz0 := H0.free (m * 6)
      have hz1 := H0.free (m * 6 + 1)
      have hz2 := H0.free (m * 6 + 2)
      have hz3 := H0.free (m * 6 + 3)
      have hz4 := H0.free (m * 6 + 4)
      have hz5 := H0.free (m * 6 + 5)
      have HS := (H6.close (y := mkFl z) (flat_mk _ (fun _ => False) (mkFl z)) (fun _ h => h.elim)).mono (G := F) (fun q hq => by rcases hq with hq | hq; exact hFr q hq; exact hq.elim)
      rw [hU.out] at HS
      have hC := HM.trans ((((((Chg.set (w := wo) (o := m * 6) (u := .int .i64 z) hF0).trans (Chg.set (o := m * 6 + 1) (u := .int .i64 (z + 1)) hF0)).trans (Chg.set (o := m * 6 + 2) (u := .int .i64 (z + 1 + 1)) hF0)).trans (Chg.set (o := m * 6 + 3) (u := .int .i64 (z + 1 + 1 + 1)) hF0)).trans (Chg.set (o := m * 6 + 4) (u := .int .i64 (z + 1 + 1 + 1 + 1)) hF0)).trans (Chg.set (o := m * 6 + 5) (u := .int .i64 (z + 1 + 1 + 1 + 1 + 1)) hF0))
      clear HO HM h H0 H1 H2 H3 H4 H5 H6 hU hK
      have m0 : 0 ≤ z := by omega
      have m1 : z + 6 ≤ 4611686018427387904 := by omega
      have HZ := Lib.hid hz
      rw [← hz]
      clear hz
      have i0 : (0 : Int) ≤ (m : Int) := Int.natCast_nonneg _
      have i1 : (m : Int) < (N : Int) := by omega
      have t1 : IntKind.i64.wrap (z + 1) = z + 1 := IntWalk.i64_in _ (by omega)
      have t2 : IntKind.i64.wrap (z + 1 + 1) = z + 1 + 1 := IntWalk.i64_in _ (by omega)
      have t3 : IntKind.i64.wrap (z + 1 + 1 + 1) = z + 1 + 1 + 1 := IntWalk.i64_in _ (by omega)
      have t4 : IntKind.i64.wrap (z + 1 + 1 + 1 + 1) = z + 1 + 1 + 1 + 1 := IntWalk.i64_in _ (by omega)
      have t5 : IntKind.i64.wrap (z + 1 + 1 + 1 + 1 + 1) = z + 1 + 1 + 1 + 1 + 1 := IntWalk.i64_in _ (by omega)
      have t6 : IntKind.i64.wrap (z + 1 + 1 + 1 + 1 + 1 + 1) = z + 1 + 1 + 1 + 1 + 1 + 1 := IntWalk.i64_in _ (by omega)
      go_wp2_with fail
      go_roundw
      case rel => exact ⟨m + 1, by omega, by go_num, by have := HZ.out; congr 1; push_cast; omega, HS, hC⟩
      case measure => simp [intOf]; omega
    · obtain rfl : m = N := by omega
      rw [← hN, List.drop_length, List.append_nil, hN] at HO
      go_wp2
      go_ret
      exact ⟨rfl, HO, HM⟩
set_option maxRecDepth 100000 in
set_option maxHeartbeats 4000000 in
theorem heldF_calls {F : Nat → Prop} (v : Value) (n : Nat) (k : Int) (w : World) (h : Rp.Rd flat w F v (upF k n)) (hk : 0 ≤ k) (hk2 : k + 6 * n ≤ 4611686018427387904) :
    Calls Try.prog 106 #[v, .int .i64 k] w fun e w' => e = .returned (.int .i64 (k + 6 * n)) ∧ w = w' := by
  obtain ⟨A, c, rfl, hc1, hc2, hrow⟩ := rd_flat h
  have hl : (upF k n).length = n := upF_len k n
  have hrow : n = 0 ∨ ∃ b o, A = some ⟨b, o, none⟩ ∧ b < w.heap.size ∧ ∀ m : Nat, m < n → FlAt w b (o + m * 6) (mkFl (k + 6 * m)) := by
    rcases hrow with hnil | ⟨b, o, e, hb, hc⟩
    · left; rw [hnil] at hl; simpa using hl.symm
    · exact .inr ⟨b, o, e, hb, fun m hm => by have := hc m (by omega); rwa [upF_get] at this⟩
  rw [hl]
  rw [hl] at hc1
  go_enter Try.func106, Try.ntmps106
  go_wp2
  go_loop [1, 5] (fun z i => ∃ m : Nat, m ≤ n ∧ i = .int .i64 m ∧ z = .int .i64 (k + 6 * m)) (fun _ i => n - (intOf i).toNat)
  case atStart => exact ⟨0, Nat.zero_le _, rfl, by go_num⟩
  case round =>
    obtain ⟨m, hm, rfl, rfl⟩ := hrel
    by_cases hlt : m < n
    · rcases hrow with hnil | ⟨b, o, rfl, hb, hcell⟩
      · omega
      obtain ⟨z, hz⟩ : ∃ z : Int, z = k + 6 * m := ⟨_, rfl⟩
      have hx := hcell m hlt
      rw [← hz] at hx ⊢
      obtain ⟨x0, x1, x2, x3, x4, x5⟩ : w.cell? ⟨b, o + m * 6, none⟩ = some (.int .i64 z) ∧ w.cell? ⟨b, o + m * 6 + 1, none⟩ = some (.int .i64 (z + 1)) ∧ w.cell? ⟨b, o + m * 6 + 2, none⟩ = some (.int .i64 (z + 1 + 1)) ∧ w.cell? ⟨b, o + m * 6 + 3, none⟩ = some (.int .i64 (z + 1 + 1 + 1)) ∧ w.cell? ⟨b, o + m * 6 + 4, none⟩ = some (.int .i64 (z + 1 + 1 + 1 + 1)) ∧ w.cell? ⟨b, o + m * 6 + 5, none⟩ = some (.int .i64 (z + 1 + 1 + 1 + 1 + 1)) := hx
      clear hcell h hl
      have HZ := Lib.hid hz
      have m0 : 0 ≤ z := by omega
      have m1 : z + 6 ≤ 4611686018427387904 := by omega
      clear hz
      have i0 : (0 : Int) ≤ (m : Int) := Int.natCast_nonneg _
      have i1 : (m : Int) < (n : Int) := by omega
      have t1 : IntKind.i64.wrap (z + 1) = z + 1 := IntWalk.i64_in _ (by omega)
      have t2 : IntKind.i64.wrap (z + 1 + 1) = z + 1 + 1 := IntWalk.i64_in _ (by omega)
      have t3 : IntKind.i64.wrap (z + 1 + 1 + 1) = z + 1 + 1 + 1 := IntWalk.i64_in _ (by omega)
      have t4 : IntKind.i64.wrap (z + 1 + 1 + 1 + 1) = z + 1 + 1 + 1 + 1 := IntWalk.i64_in _ (by omega)
      have t5 : IntKind.i64.wrap (z + 1 + 1 + 1 + 1 + 1) = z + 1 + 1 + 1 + 1 + 1 := IntWalk.i64_in _ (by omega)
      have t6 : IntKind.i64.wrap (z + 1 + 1 + 1 + 1 + 1 + 1) = z + 1 + 1 + 1 + 1 + 1 + 1 := IntWalk.i64_in _ (by omega)
      have n0 : (z != z) = false := by simp
      have n1 : (z + 1 != z + 1) = false := by simp
      have n2 : (z + 1 + 1 != z + 1 + 1) = false := by simp
      have n3 : (z + 1 + 1 + 1 != z + 1 + 1 + 1) = false := by simp
      have n4 : (z + 1 + 1 + 1 + 1 != z + 1 + 1 + 1 + 1) = false := by simp
      have n5 : (z + 1 + 1 + 1 + 1 + 1 != z + 1 + 1 + 1 + 1 + 1) = false := by simp
      go_wp2_with fail
      go_round
      case rel => exact ⟨m + 1, by omega, by go_num, by have := HZ.out; congr 1; push_cast; omega⟩
      case measure => simp [intOf]; omega
    · obtain rfl : m = n := by omega
      go_wp2
      go_ret
      exact ⟨rfl, rfl⟩
end Go.Proofs.Ytmcnoeinjocimaa.L

set_option linter.unusedVariables false
set_option linter.unusedSimpArgs false
namespace Go.Proofs.Ytmcnoeinjocimaa.L
open Go.RowKit
/-- Small enough to be counted through. -/
def PtOk (p : Pt) : Prop := p.params.length ≤ 300 ∧ p.code.length ≤ 100 ∧ p.next.length ≤ 10 ∧ p.args.length ≤ 10 ∧ ∀ a ∈ p.args, a.length ≤ 300
def PtsOk (L : List Pt) : Prop := L.length ≤ 100 ∧ ∀ p ∈ L, PtOk p
def sizeP (p : Pt) : Nat := p.params.length + 6 * p.code.length + 2 + p.next.length + totLL p.args
def mkPt (z : Int) (p : Pt) : Pt := ⟨upL z p.params.length, upF (z + p.params.length) p.code.length, z + p.params.length + 6 * p.code.length, z + p.params.length + 6 * p.code.length + 1, upL (z + p.params.length + 6 * p.code.length + 1 + 1) p.next.length, marksLL (z + p.params.length + 6 * p.code.length + 1 + 1 + p.next.length) p.args⟩
def marksP (k : Int) : List Pt → List Pt
  | [] => []
  | p :: t => mkPt k p :: marksP (k + sizeP p) t
def totP (L : List Pt) : Nat := (L.map sizeP).sum
theorem totLL_le3 {L : List (List Int)} (h : ∀ a ∈ L, a.length ≤ 300) : totLL L ≤ L.length * 300 := by
  induction L with
  | nil => simp [totLL]
  | cons p t ih =>
    have h1 := h p List.mem_cons_self
    have h2 := ih (fun q hq => h q (List.mem_cons_of_mem _ hq))
    have e : totLL (p :: t) = p.length + totLL t := by simp [totLL]
    rw [e, List.length_cons, Nat.succ_mul]; omega
theorem sizeP_le {p : Pt} (h : PtOk p) : sizeP p ≤ 3912 := by
  have := totLL_le3 h.2.2.2.2
  have h1 := h.2.2.2.1
  unfold sizeP
  have := h.1; have := h.2.1; have := h.2.2.1
  omega
theorem marksP_len (L : List Pt) : ∀ k, (marksP k L).length = L.length := by
  induction L with
  | nil => intro k; rfl
  | cons p t ih => intro k; simp [marksP, ih]
theorem totP_le {L : List Pt} (h : ∀ p ∈ L, PtOk p) : totP L ≤ L.length * 3912 := by
  induction L with
  | nil => simp [totP]
  | cons p t ih =>
    have h1 := sizeP_le (h p List.mem_cons_self)
    have h2 := ih (fun q hq => h q (List.mem_cons_of_mem _ hq))
    have e : totP (p :: t) = sizeP p + totP t := by simp [totP]
    rw [e, List.length_cons, Nat.succ_mul]; omega
theorem marksP_app : ∀ (A B : List Pt) (k : Int), marksP k (A ++ B) = marksP k A ++ marksP (k + totP A) B := by
  intro A
  induction A with
  | nil => intro B k; simp [marksP, totP]
  | cons a t ih =>
    intro B k
    have e : k + (sizeP a : Int) + (totP t : Int) = k + (totP (a :: t) : Int) := by
      have : totP (a :: t) = sizeP a + totP t := by simp [totP]
      rw [this]; push_cast; omega
    simp only [List.cons_append, marksP, ih, e]
theorem totP_take {L : List Pt} {m : Nat} (hm : m < L.length) : totP (L.take (m + 1)) = totP (L.take m) + sizeP L[m] ∧ ∀ k, marksP k (L.take (m + 1)) = marksP k (L.take m) ++ [mkPt (k + totP (L.take m)) L[m]] := by
  have hs : ∀ (A : List Pt) (x : Pt), totP (A ++ [x]) = totP A + sizeP x := fun A x => by simp [totP]
  rw [List.take_succ_eq_append_getElem hm]
  exact ⟨hs _ _, fun k => by rw [marksP_app]; rfl⟩
theorem marksP_get {k : Int} {L : List Pt} {m : Nat} (hm : m < L.length) (hm2 : m < (marksP k L).length) : (marksP k L)[m] = mkPt (k + totP (L.take m)) L[m] := by
  have h := (totP_take hm).2 k
  have h2 := marksP_app (L.take (m + 1)) (L.drop (m + 1)) k
  rw [List.take_append_drop, h] at h2
  have e1 : (marksP k (L.take m)).length = m := by rw [marksP_len, List.length_take]; omega
  have : (marksP k L)[m]? = some (mkPt (k + totP (L.take m)) L[m]) := by
    rw [h2, List.append_assoc, List.getElem?_append_right (by omega), e1, Nat.sub_self]; rfl
  rw [List.getElem?_eq_getElem hm2] at this
  exact Option.some.inj this
theorem partA_sz : partA.sz = 6 := rfl
set_option maxRecDepth 100000 in
set_option maxHeartbeats 8000000 in
theorem markP_own {F : Nat → Prop} (v : Value) (L : List Pt) (k : Int) (w : World) (h : Ow true 54 partA w F v L) (hL : PtsOk L) (hk : 0 ≤ k) (hk2 : k ≤ 1000) :
    Calls Try.prog 56 #[v, .int .i64 k] w fun e w' => e = .returned (.int .i64 (k + totP L)) ∧ Ow true 54 partA w' F v (marksP k L) ∧ Chg F w w' := by
  obtain ⟨A, c, rfl, hc1, hc2⟩ := h.form
  have hA : L.length = 0 ∨ ∃ g, A = some ⟨g, 0, none⟩ ∧ F g := by
    by_cases hn : L.length = 0
    · exact .inl hn
    obtain ⟨g, c0, cs0, he0, hF0, _, _, _, hz0⟩ := h.at_ (List.getElem?_eq_getElem (show 0 < L.length by omega))
    cases he0
    exact .inr ⟨g, rfl, hF0⟩
  have hL1 := hL.1
  have HL := Lib.hid hL.2
  clear hL
  go_enter Try.func56, Try.ntmps56
  go_wp2
  go_loopw [1, 5] (fun z i wr => ∃ m : Nat, m ≤ L.length ∧ i = .int .i64 m ∧ z = .int .i64 (k + totP (L.take m)) ∧ Ow true 54 partA wr F (.slice A L.length c) (marksP k (L.take m) ++ L.drop m) ∧ Chg F w wr) (fun _ i _ => L.length - (intOf i).toNat)
  case atStart => exact ⟨0, Nat.zero_le _, rfl, by simp [totP], by simpa [marksP] using h, Chg.refl _ _⟩
  case round =>
    obtain ⟨m, hm, rfl, rfl, HO, HC⟩ := hrel
    rename World => wo
    by_cases hlt : m < L.length
    · rcases hA with hA | ⟨g, rfl, hF0⟩
      · omega
      have hml : m < (marksP k (L.take m) ++ L.drop m).length := by rw [List.length_append, marksP_len, List.length_take, List.length_drop]; omega
      have e1 : (marksP k (L.take m)).length = m := by rw [marksP_len, List.length_take]; omega
      have hgt : (marksP k (L.take m) ++ L.drop m)[m] = L[m] := by
        rw [List.getElem_append_right (by omega), List.getElem_drop]
        congr 1; omega
      obtain ⟨Fr, Gk, us, hFr, hGk, hK, H0⟩ := HO.hole hml
      rw [hgt] at hK
      obtain ⟨ht1, ht2⟩ := totP_take hlt
      have hset : Hid ((marksP k (L.take m) ++ L.drop m).set m (mkPt (k + totP (L.take m)) L[m]) = marksP k (L.take (m + 1)) ++ L.drop (m + 1)) := Lib.hid (by
        rw [ht2 k, List.drop_eq_getElem_cons hlt, List.set_append_right _ _ (by omega), e1, Nat.sub_self, List.set_cons_zero, List.append_assoc]
        rfl)
      have htb := totP_le (L := L.take m) (fun a ha => HL.out a (List.mem_of_mem_take ha))
      rw [List.length_take] at htb
      obtain ⟨q1, q2, q3, q4⟩ := HL.out _ (List.getElem_mem hlt)
      have HT := Lib.hid ht1
      have HC0 := Lib.hid HC
      clear ht1 ht2 hgt h HO e1 HC
      generalize L[m] = p at *
      have q5 := totLL_le3 q4.2
      have q6 : p.args.length ≤ 1000 := by omega
      have q7 : Hid (∀ a ∈ p.args, a.length ≤ 1000) := Lib.hid (fun a ha => by have := q4.2 a ha; omega)
      generalize marksP k (L.take m) ++ L.drop m = LL at *
      obtain ⟨y, hy⟩ : ∃ y : Int, y = k + totP (L.take m) := ⟨_, rfl⟩
      rw [← hy] at hset ⊢
      have y0 : 0 ≤ y := by omega
      have y1 : y ≤ 400000 := by
        have : min m L.length * 3912 ≤ 100 * 3912 := Nat.mul_le_mul_right _ (by omega)
        omega
      have HY := Lib.hid hy
      clear hy htb
      obtain ⟨G0, G1, G2, G3, i0, i1, i2, i3, d01, d02, d03, d12, d13, d23, vp, vc, vn, va, rfl, k1, k2, k3, k4⟩ := partA_open hK
      have hn0 : ∀ q, G0 q → ¬ Fr q := fun q hq => (hGk q (i0 q hq)).2.1
      have hn1 : ∀ q, G1 q → ¬ Fr q := fun q hq => (hGk q (i1 q hq)).2.1
      have hn2 : ∀ q, G2 q → ¬ Fr q := fun q hq => (hGk q (i2 q hq)).2.1
      have hn3 : ∀ q, G3 q → ¬ Fr q := fun q hq => (hGk q (i3 q hq)).2.1
      have hGF : ∀ q, Gk q → F q := fun q hq => (hGk q hq).1
      have hgg := H0.lt
      obtain ⟨Ap, cp, rfl, _, _⟩ := k1.form
      obtain ⟨Ac, cc, rfl, _, _⟩ := k2.form
      obtain ⟨An, cn, rfl, _, _⟩ := k3.form
      obtain ⟨Aa, ca, rfl, _, _⟩ := k4.form
      have m0 : (0 : Int) ≤ (m : Int) := Int.natCast_nonneg _
      have m1 : (m : Int) < (L.length : Int) := by omega
      have x0 := H0.cell0 partA_sz rfl
      have C1 := Lib.hid (markI_own _ p.params y wo k1 (by omega) (by omega))
      go_wp2_with fail
      refine C1.out.mono ?_
      rintro e w1 ⟨rfl, k1, X1⟩
      have H1 := H0.chg X1 hn0
      have k2 := k2.move (X1.same (fun q hq h => d01 q h hq))
      have k3 := k3.move (X1.same (fun q hq h => d02 q h hq))
      have k4 := k4.move (X1.same (fun q hq h => d03 q h hq))
      have Y1 := X1.mono (A' := F) (fun q hq => hGF q (i0 q hq))
      have x1 := H1.cellj 1 partA_sz rfl
      have C2 := Lib.hid (markF_own _ p.code (y + p.params.length) w1 k2 (by omega) (by omega))
      clear C1 X1 x0 H0
      go_wp2_with fail
      refine C2.out.mono ?_
      rintro e w2 ⟨rfl, k2, X2⟩
      have H2 := H1.chg X2 hn1
      have k1 := k1.move (X2.same (fun q hq h => d01 q hq h))
      have k3 := k3.move (X2.same (fun q hq h => d12 q h hq))
      have k4 := k4.move (X2.same (fun q hq h => d13 q h hq))
      have Y2 := Y1.trans (X2.mono (A' := F) (fun q hq => hGF q (i1 q hq)))
      clear C2 X2 x1 H1 Y1
      obtain ⟨z, hz⟩ : ∃ z : Int, z = y + p.params.length + 6 * p.code.length := ⟨_, rfl⟩
      have HZ := Lib.hid hz
      have z0 : 0 ≤ z := by omega
      have z1 : z ≤ y + 7000 := by omega
      rw [← hz]
      clear hz
      have x2 := H2.cellj 2 partA_sz rfl
      have H3 := H2.setj (j := 2) partA_sz (by omega) (.int .i64 z)
      have x3 := H3.cellj 3 partA_sz rfl
      have H4 := H3.setj (j := 3) partA_sz (by omega) (.int .i64 (z + 1))
      have f2 := H2.free (m * 6 + 2)
      have f3 := H2.free (m * 6 + 3)
      have X3 := (Chg.set (A := fun q => q = g) (w := w2) (b := g) (o := m * 6 + 2) (u := .int .i64 z) rfl).trans (Chg.set (b := g) (o := m * 6 + 3) (u := .int .i64 (z + 1)) rfl)
      have x4 := H4.cellj 4 partA_sz rfl
      have hng : ∀ q, Gk q → q ≠ g := fun q hq => (hGk q hq).2.2
      have k1 := k1.move (X3.same (fun q hq h => hng q (i0 q hq) h))
      have k2 := k2.move (X3.same (fun q hq h => hng q (i1 q hq) h))
      have k3 := k3.move (X3.same (fun q hq h => hng q (i2 q hq) h))
      have k4 := k4.move (X3.same (fun q hq h => hng q (i3 q hq) h))
      have Y3 := Y2.trans (X3.mono (A' := F) (fun q hq => by have hq : q = g := hq; subst hq; exact hF0))
      have t1 : IntKind.i64.wrap (z + 1) = z + 1 := IntWalk.i64_in _ (by omega)
      have t2 : IntKind.i64.wrap (z + 1 + 1) = z + 1 + 1 := IntWalk.i64_in _ (by omega)
      have C3 := Lib.hid (markI_own _ p.next (z + 1 + 1) _ k3 (by omega) (by omega))
      clear H2 H3 X3 Y2
      go_wp2_with fail
      refine C3.out.mono ?_
      rintro e w3 ⟨rfl, k3, X5⟩
      have H5 := H4.chg X5 hn2
      have k1 := k1.move (X5.same (fun q hq h => d02 q hq h))
      have k2 := k2.move (X5.same (fun q hq h => d12 q hq h))
      have k4 := k4.move (X5.same (fun q hq h => d23 q h hq))
      have Y5 := Y3.trans (X5.mono (A' := F) (fun q hq => hGF q (i2 q hq)))
      have x5 := H5.cellj 5 partA_sz rfl
      have C4 := Lib.hid (markII_own _ p.args (z + 1 + 1 + p.next.length) w3 k4 q6 q7.out (by omega) (by omega))
      clear C3 X5 x2 x3 x4 f2 f3 H4 Y3
      go_wp2_with fail
      refine C4.out.mono ?_
      rintro e w4 ⟨rfl, k4, X6⟩
      have H6 := H5.chg X6 hn3
      have k1 := k1.move (X6.same (fun q hq h => d03 q hq h))
      have k2 := k2.move (X6.same (fun q hq h => d13 q hq h))
      have k3 := k3.move (X6.same (fun q hq h => d23 q hq h))
      have Y6 := Y5.trans (X6.mono (A' := F) (fun q hq => hGF q (i3 q hq)))
      have HYZ : Hid (y + (sizeP p : Int) = z + 1 + 1 + p.next.length + totLL p.args) := Lib.hid (by have := HZ.out; unfold sizeP; push_cast; omega)
      have hKn : partA.K w4 Gk (mkPt y p) _ := partA_mk (x := mkPt y p) i0 i1 i2 i3 d01 d02 d03 d12 d13 d23 k1 k2 (by unfold mkPt; dsimp only; rw [← HZ.out]; exact k3) (by unfold mkPt; dsimp only; rw [← HZ.out]; exact k4)
      have hus : (mkPt y p).go = z ∧ (mkPt y p).test = z + 1 := by unfold mkPt; dsimp only; rw [← HZ.out]; exact ⟨rfl, rfl⟩
      rw [hus.1, hus.2] at hKn
      have HS := (H6.close hKn (fun q hq => (hGk q hq).2.1)).mono (G := F) (fun q hq => by rcases hq with hq | hq; exact hFr q hq; exact hGF q hq)
      rw [hset.out] at HS
      have HC2 := HC0.out.trans Y6
      clear C4 X6 x5 H5 Y5 H6 k1 k2 k3 k4 hKn hus HC0 hset
      go_wp2_with fail
      go_roundw
      case rel => exact ⟨m + 1, by omega, by go_num, by rw [HT.out]; congr 1; have := HYZ.out; have := HY.out; push_cast; omega, HS, HC2⟩
      case measure => simp [intOf]; omega
    · obtain rfl : m = L.length := by omega
      rw [List.take_length, List.drop_length, List.append_nil] at HO
      rw [List.take_length]
      go_wp2
      go_ret
      exact ⟨rfl, HO, HC⟩
set_option maxRecDepth 100000 in
set_option maxHeartbeats 8000000 in
theorem heldP_calls {F : Nat → Prop} (v : Value) (L : List Pt) (k : Int) (w : World) (h : Rp.Rd part w F v (marksP k L)) (hL : PtsOk L) (hk : 0 ≤ k) (hk2 : k ≤ 1000) :
    Calls Try.prog 67 #[v, .int .i64 k] w fun e w' => e = .returned (.int .i64 (k + totP L)) ∧ w = w' := by
  obtain ⟨A, c, rfl, hc1, hc2, hrow⟩ := rd_part h
  have hll : (marksP k L).length = L.length := marksP_len L k
  have hrow : L.length = 0 ∨ ∃ b o, A = some ⟨b, o, none⟩ ∧ ∀ m (hm : m < L.length), ∃ vp vc vn va, partAt w b (o + m * 6) (mkPt (k + totP (L.take m)) L[m]) vp vc vn va ∧ Rp.Rd Rp.int w F vp (mkPt (k + totP (L.take m)) L[m]).params ∧ Rp.Rd flat w F vc (mkPt (k + totP (L.take m)) L[m]).code ∧ Rp.Rd Rp.int w F vn (mkPt (k + totP (L.take m)) L[m]).next ∧ Rp.Rd (Rp.sl Rp.int) w F va (mkPt (k + totP (L.take m)) L[m]).args := by
    rcases hrow with hnil | ⟨b, o, e, hb, hc⟩
    · left; rw [hnil] at hll; simpa using hll.symm
    · refine .inr ⟨b, o, e, fun m hm => ?_⟩
      have := hc m (by omega)
      rwa [marksP_get hm] at this
  rw [hll]
  rw [hll] at hc1
  have hL1 := hL.1
  have HL := Lib.hid hL.2
  clear hL h hll
  go_enter Try.func67, Try.ntmps67
  go_wp2
  go_loop [1, 5] (fun z i => ∃ m : Nat, m ≤ L.length ∧ i = .int .i64 m ∧ z = .int .i64 (k + totP (L.take m))) (fun _ i => L.length - (intOf i).toNat)
  case atStart => exact ⟨0, Nat.zero_le _, rfl, by simp [totP]⟩
  case round =>
    obtain ⟨m, hm, rfl, rfl⟩ := hrel
    by_cases hlt : m < L.length
    · rcases hrow with hnil | ⟨b, o, rfl, hcell⟩
      · omega
      obtain ⟨vp, vc, vn, va, hp, k1, k2, k3, k4⟩ := hcell m hlt
      obtain ⟨ht1, -⟩ := totP_take hlt
      have htb := totP_le (L := L.take m) (fun a ha => HL.out a (List.mem_of_mem_take ha))
      rw [List.length_take] at htb
      obtain ⟨q1, q2, q3, q4⟩ := HL.out _ (List.getElem_mem hlt)
      have HT := Lib.hid ht1
      clear hcell ht1
      generalize L[m] = p at *
      have q5 := totLL_le3 q4.2
      have q6 : p.args.length ≤ 1000 := by omega
      have q7 : Hid (∀ a ∈ p.args, a.length ≤ 1000) := Lib.hid (fun a ha => by have := q4.2 a ha; omega)
      obtain ⟨y, hy⟩ : ∃ y : Int, y = k + totP (L.take m) := ⟨_, rfl⟩
      rw [← hy] at hp k1 k2 k3 k4 ⊢
      have y0 : 0 ≤ y := by omega
      have y1 : y ≤ 400000 := by
        have : min m L.length * 3912 ≤ 100 * 3912 := Nat.mul_le_mul_right _ (by omega)
        omega
      have HY := Lib.hid hy
      clear hy htb
      obtain ⟨z, hz⟩ : ∃ z : Int, z = y + p.params.length + 6 * p.code.length := ⟨_, rfl⟩
      unfold mkPt at hp k1 k2 k3 k4
      rw [← hz] at hp k3 k4
      dsimp only at k1 k2 k3 k4
      obtain ⟨x0, x1, x2, x3, x4, x5⟩ := hp
      dsimp only at x2 x3
      obtain ⟨Ap, cp, rfl, _, _⟩ := id k1
      obtain ⟨Ac, cc, rfl, _, _⟩ := id k2
      obtain ⟨An, cn, rfl, _, _⟩ := id k3
      obtain ⟨Aa, ca, rfl, _, _⟩ := id k4
      have HZ := Lib.hid hz
      have z0 : 0 ≤ z := by omega
      have z1 : z ≤ y + 7000 := by omega
      have C1 := Lib.hid (heldI_calls _ p.params.length y w k1 (by omega) (by omega))
      have C2 := Lib.hid (heldF_calls _ p.code.length (y + p.params.length) w k2 (by omega) (by omega))
      rw [← hz] at C2
      have C3 := Lib.hid (heldI_calls _ p.next.length (z + 1 + 1) w k3 (by omega) (by omega))
      have C4 := Lib.hid (heldII_calls _ p.args (z + 1 + 1 + p.next.length) w k4 q6 q7.out (by omega) (by omega))
      clear hz k1 k2 k3 k4
      have t1 : IntKind.i64.wrap (z + 1) = z + 1 := IntWalk.i64_in _ (by omega)
      have t2 : IntKind.i64.wrap (z + 1 + 1) = z + 1 + 1 := IntWalk.i64_in _ (by omega)
      have n0 : ¬ (y + (p.params.length : Int) < 0) := by omega
      have n1 : ¬ (z < 0) := by omega
      have n2 : (z != z) = false := by simp
      have n3 : (z + 1 != z + 1) = false := by simp
      have n4 : ¬ (z + 1 + 1 + (p.next.length : Int) < 0) := by omega
      have n5 : ¬ (z + 1 + 1 + (p.next.length : Int) + (totLL p.args : Int) < 0) := by omega
      have m0 : (0 : Int) ≤ (m : Int) := Int.natCast_nonneg _
      have m1 : (m : Int) < (L.length : Int) := by omega
      go_wp2_with fail
      refine C1.out.mono ?_
      rintro e w1 ⟨rfl, rfl⟩
      go_wp2_with fail
      refine C2.out.mono ?_
      rintro e w1 ⟨rfl, rfl⟩
      go_wp2_with fail
      refine C3.out.mono ?_
      rintro e w1 ⟨rfl, rfl⟩
      go_wp2_with fail
      refine C4.out.mono ?_
      rintro e w1 ⟨rfl, rfl⟩
      go_wp2_with fail
      go_round
      case rel => exact ⟨m + 1, by omega, by go_num, by rw [HT.out]; congr 1; have := HZ.out; have := HY.out; unfold sizeP; push_cast; omega⟩
      case measure => simp [intOf]; omega
    · obtain rfl : m = L.length := by omega
      rw [List.take_length]
      go_wp2
      go_ret
      exact ⟨rfl, rfl⟩
set_option maxRecDepth 100000 in
set_option maxHeartbeats 4000000 in
theorem markSa_own {F : Nat → Prop} (vp : Value) (S : Sa) (k : Int) (w : World) (h : Ow true 54 partA w F vp S.parts) (hL : PtsOk S.parts) (hk : 0 ≤ k) (hk2 : k ≤ 1000) :
    Calls Try.prog 22 #[saV S vp, .int .i64 k] w fun e w' => e = .returned (.int .i64 (k + totP S.parts)) ∧ Ow true 54 partA w' F vp (marksP k S.parts) ∧ Chg F w w' := by
  obtain ⟨A, c, rfl, hc1, hc2⟩ := h.form
  have h := h.bound
  have hB := below_new (w := w) (.cells #[.slice A S.parts.length c, .int .i64 S.values] 29)
  have HC := Lib.hid (markP_own (.slice A S.parts.length c) S.parts k _ (h.below hB) hL hk hk2)
  unfold saV
  go_enter Try.func22, Try.ntmps22
  go_wp2_with fail
  refine HC.out.mono ?_
  rintro e w1 ⟨rfl, hO, hC⟩
  have hC2 := (Chg.of_below (A := fun q => F q ∧ q < w.heap.size) hB).trans hC
  clear HC hC
  go_wp2
  go_ret
  exact ⟨rfl, hO.mono (fun q hq => hq.1), hC2.mono (fun q hq => hq.1)⟩
set_option maxRecDepth 100000 in
set_option maxHeartbeats 4000000 in
theorem heldSa_calls {F : Nat → Prop} (vp : Value) (L : List Pt) (V k : Int) (w : World) (h : Rp.Rd part w F vp (marksP k L)) (hL : PtsOk L) (hk : 0 ≤ k) (hk2 : k ≤ 1000) :
    Calls Try.prog 38 #[.agg #[vp, .int .i64 V], .int .i64 k] w fun e w' => e = .returned (.int .i64 (k + totP L)) ∧ Below w.heap.size w w' := by
  obtain ⟨A, c, rfl, hc1, hc2⟩ := id h
  have hB := below_new (w := w) (.cells #[.slice A (marksP k L).length c, .int .i64 V] 29)
  have HC := Lib.hid (heldP_calls (.slice A (marksP k L).length c) L k _ (h.below hB) hL hk hk2)
  have n0 : ¬ (k + (totP L : Int) < 0) := by omega
  go_enter Try.func38, Try.ntmps38
  go_wp2_with fail
  refine HC.out.mono ?_
  rintro e w1 ⟨rfl, rfl⟩
  go_wp2
  go_ret
  exact ⟨rfl, hB⟩
end Go.Proofs.Ytmcnoeinjocimaa.L

set_option linter.unusedVariables false
set_option linter.unusedSimpArgs false
namespace Go.Proofs.Ytmcnoeinjocimaa.L
open Go.RowKit
theorem GoodP.static {s : Sa} (h : GoodP s) {p : Pt} (hp : p ∈ s.parts) : staticI s p = true := (static_iff h.v1).2 ⟨h.nx p hp, h.pt p hp⟩
theorem static_args {s : Sa} {p : Pt} (h : staticI s p = true) : p.next.length ≤ p.args.length := by
  unfold staticI at h
  simp only [Bool.and_eq_true] at h
  obtain ⟨⟨⟨hc, hg⟩, h0⟩, ha⟩ := h
  unfold argsS at ha
  split at ha
  · rename_i h3
    unfold goB at hg
    simp only [Bool.and_eq_true] at hg
    have hg := hg.2
    rw [beq_iff_eq] at h3
    rw [h3] at hg
    have h0 : p.next.length = 0 := by simpa using hg
    omega
  · rw [fitS_len _ _ _ ha]; exact Nat.le_refl _
def edgesN (l : List Pt) (k : Int) : Nat := (l.map (fun p : Pt => p.next.count k)).sum
theorem edgesN_take {l : List Pt} {j : Nat} (hj : j < l.length) (k : Int) : edgesN (l.take (j + 1)) k = edgesN (l.take j) k + l[j].next.count k := by
  unfold edgesN
  rw [List.take_succ_eq_append_getElem hj, List.map_append, List.sum_append]; simp
theorem count_take {l : List Int} {j : Nat} (hj : j < l.length) (k : Int) : (l.take (j + 1)).count k = (l.take j).count k + (if l[j] = k then 1 else 0) := by
  rw [List.take_succ_eq_append_getElem hj, List.count_append, List.count_singleton]
  by_cases h : l[j] = k <;> simp [h]
theorem edgesN_le {l : List Pt} {k : Int} (h : ∀ p ∈ l, p.next.length ≤ 1048576) : edgesN l k ≤ l.length * 1048576 := by
  induction l with
  | nil => simp [edgesN]
  | cons p t ih =>
    have h1 := ih (fun q hq => h q (List.mem_cons_of_mem _ hq))
    have h2 := h p List.mem_cons_self
    have h3 := List.count_le_length (a := k) (l := p.next)
    unfold edgesN at h1 ⊢
    simp only [List.map_cons, List.sum_cons, List.length_cons, Nat.succ_mul]
    omega
/-- An edge is critical and has Args. -/
def critB (l : List Pt) (p : Pt) (i : Nat) : Bool := decide (1 < p.next.length) && decide (1 < edgesN l (p.next.getD i 0)) && decide (0 < (p.args.getD i []).length)
def splitB (s : Sa) : Bool := s.parts.all (fun p => (List.range p.next.length).all (fun i => !critB s.parts p i))
end Go.Proofs.Ytmcnoeinjocimaa.L

set_option linter.unusedVariables false
set_option linter.unusedSimpArgs false
namespace Go.Proofs.Ytmcnoeinjocimaa.L
open Go.RowKit
/-- A value is needed ahead of a part. -/
inductive LvI (s : Sa) : Nat → Int → Prop
  | own {k : Nat} {p : Pt} {v : Int} (hp : s.parts[k]? = some p) (h : v ∈ endsS p ∨ v ∈ p.code.flatMap usesS) (hn : v ∉ ownS p) : LvI s k v
  | flow {k : Nat} {p : Pt} {x v : Int} (hp : s.parts[k]? = some p) (hx : x ∈ p.next) (h : LvI s x.toNat v) (hn : v ∉ ownS p) : LvI s k v
/-- A value is needed behind a part, given what is needed ahead of each. -/
def BhP (I : Nat → Int → Prop) (p : Pt) (v : Int) : Prop := v ∈ endsS p ∨ ∃ x ∈ p.next, I x.toNat v
def LvO (s : Sa) (k : Nat) (v : Int) : Prop := ∃ p, s.parts[k]? = some p ∧ BhP (LvI s) p v
/-- .. and ahead of it. -/
def AhP (I : Nat → Int → Prop) (p : Pt) (v : Int) : Prop := (BhP I p v ∨ v ∈ p.code.flatMap usesS) ∧ v ∉ ownS p
theorem LvI.ah {s : Sa} {k : Nat} {v : Int} (h : LvI s k v) : ∃ p, s.parts[k]? = some p ∧ AhP (LvI s) p v := by
  cases h with
  | own hp h hn => exact ⟨_, hp, by rcases h with h | h; exact .inl (.inl h); exact .inr h, hn⟩
  | flow hp hx h hn => exact ⟨_, hp, .inl (.inr ⟨_, hx, h⟩), hn⟩
theorem LvI.of_ah {s : Sa} {k : Nat} {p : Pt} {v : Int} (hp : s.parts[k]? = some p) (h : AhP (LvI s) p v) : LvI s k v := by
  obtain ⟨(h | ⟨x, hx, h⟩) | h, hn⟩ := h
  · exact .own hp (.inl h) hn
  · exact .flow hp hx h hn
  · exact .own hp (.inr h) hn
theorem BhP.mono {I J : Nat → Int → Prop} {p : Pt} {v : Int} (h : BhP I p v) (hIJ : ∀ k v, I k v → J k v) : BhP J p v := by
  rcases h with h | ⟨x, hx, h⟩
  · exact .inl h
  · exact .inr ⟨x, hx, hIJ _ _ h⟩
theorem AhP.mono {I J : Nat → Int → Prop} {p : Pt} {v : Int} (h : AhP I p v) (hIJ : ∀ k v, I k v → J k v) : AhP J p v :=
  ⟨h.1.imp (fun h => h.mono hIJ) id, h.2⟩
/-- What holds no more than is needed, and all that its own rules ask, is what is needed. -/
theorem LvI.least {s : Sa} {I : Nat → Int → Prop} (hc : ∀ (k : Nat) (p : Pt), s.parts[k]? = some p → ∀ v, AhP I p v → I k v) : ∀ {k v}, LvI s k v → I k v := by
  intro k v h
  induction h with
  | own hp h hn => exact hc _ _ hp _ ⟨by rcases h with h | h; exact .inl (.inl h); exact .inr h, hn⟩
  | flow hp hx h hn ih => exact hc _ _ hp _ ⟨.inl (.inr ⟨_, hx, ih⟩), hn⟩
/-- Lists that grow. -/
def Inc (l : List Int) : Prop := l.Pairwise (· < ·)
theorem Inc.nil : Inc [] := List.Pairwise.nil
theorem Inc.putL {l : List Int} (h : Inc l) (n : Int) : Inc (putL l n) := by
  induction l with
  | nil => exact List.pairwise_singleton _ _
  | cons x t ih =>
    obtain ⟨h1, h2⟩ := List.pairwise_cons.1 h
    simp only [L.putL]
    split
    · refine List.pairwise_cons.2 ⟨fun y hy => ?_, ih h2⟩
      rcases (mem_putL t n y).1 hy with rfl | hy
      · assumption
      · exact h1 y hy
    · split
      · exact h
      · refine List.pairwise_cons.2 ⟨fun y hy => ?_, h⟩
        rcases List.mem_cons.1 hy with rfl | hy
        · omega
        · have := h1 y hy; omega
theorem Inc.foldl {l : List Int} : ∀ {m : List Int}, Inc m → Inc (l.foldl L.putL m) := by
  induction l with
  | nil => intro m h; exact h
  | cons x t ih => intro m h; exact ih (h.putL x)
theorem mem_foldl_putL {l : List Int} : ∀ {m : List Int} {v : Int}, v ∈ l.foldl putL m ↔ v ∈ l ∨ v ∈ m := by
  induction l with
  | nil => intro m v; simp
  | cons x t ih =>
    intro m v
    rw [List.foldl_cons, ih, mem_putL, List.mem_cons]
    constructor
    · rintro (h | h | h); exact .inl (.inr h); exact .inl (.inl h); exact .inr h
    · rintro ((h | h) | h); exact .inr (.inl h); exact .inl h; exact .inr (.inr h)
theorem Inc.filter {l : List Int} (h : Inc l) (f : Int → Bool) : Inc (l.filter f) := List.Pairwise.filter f h
theorem Inc.ext {l m : List Int} (hl : Inc l) (hm : Inc m) (h : ∀ v, v ∈ l ↔ v ∈ m) : l = m := by
  induction l generalizing m with
  | nil => cases m with
    | nil => rfl
    | cons y t => exact absurd ((h y).2 List.mem_cons_self) (by simp)
  | cons x t ih =>
    cases m with
    | nil => exact absurd ((h x).1 List.mem_cons_self) (by simp)
    | cons y u =>
      obtain ⟨a1, a2⟩ := List.pairwise_cons.1 hl
      obtain ⟨b1, b2⟩ := List.pairwise_cons.1 hm
      have hxy : x = y := by
        rcases List.mem_cons.1 ((h x).1 List.mem_cons_self) with e | e
        · exact e
        · rcases List.mem_cons.1 ((h y).2 List.mem_cons_self) with e2 | e2
          · exact e2.symm
          · have := b1 x e; have := a1 y e2; omega
      subst hxy
      congr 1
      refine ih a2 b2 fun v => ⟨fun hv => ?_, fun hv => ?_⟩
      · rcases List.mem_cons.1 ((h v).1 (List.mem_cons_of_mem _ hv)) with e | e
        · subst e; exact absurd (a1 v hv) (by omega)
        · exact e
      · rcases List.mem_cons.1 ((h v).2 (List.mem_cons_of_mem _ hv)) with e | e
        · subst e; exact absurd (b1 v hv) (by omega)
        · exact e
/-- A list that grows, of values below a bound. -/
theorem Inc.length_le {l : List Int} (h : Inc l) {V : Int} (hV : 0 ≤ V) (h0 : ∀ v ∈ l, 0 ≤ v ∧ v < V) : (l.length : Int) ≤ V := by
  have key : ∀ (l : List Int) (a : Int), Inc l → (∀ v ∈ l, a ≤ v ∧ v < V) → a ≤ V → a + l.length ≤ V := by
    intro l
    induction l with
    | nil => intro a _ _ h; simpa using h
    | cons x t ih =>
      intro a hi hr ha
      obtain ⟨h1, h2⟩ := List.pairwise_cons.1 hi
      have hx := hr x List.mem_cons_self
      have := ih (x + 1) h2 (fun v hv => ⟨by have := h1 v hv; omega, (hr v (List.mem_cons_of_mem _ hv)).2⟩) (by omega)
      rw [List.length_cons]; omega
  have := key l 0 h (fun v hv => h0 v hv) hV
  omega
theorem Inc.sub_eq {l m : List Int} (hl : Inc l) (hm : Inc m) (h : ∀ v ∈ l, v ∈ m) (hn : m.length ≤ l.length) : l = m := by
  induction l generalizing m with
  | nil => cases m with
    | nil => rfl
    | cons y t => simp at hn
  | cons x t ih =>
    cases m with
    | nil => exact absurd (h x List.mem_cons_self) (by simp)
    | cons y u =>
      obtain ⟨a1, a2⟩ := List.pairwise_cons.1 hl
      obtain ⟨b1, b2⟩ := List.pairwise_cons.1 hm
      simp only [List.length_cons] at hn
      have ht : ∀ v ∈ t, v ∈ u := fun v hv => by
        rcases List.mem_cons.1 (h v (List.mem_cons_of_mem _ hv)) with e | e
        · rcases List.mem_cons.1 (h x List.mem_cons_self) with e2 | e2
          · have := a1 v hv; omega
          · have := a1 v hv; have := b1 x e2; omega
        · exact e
      have htu := ih a2 b2 ht (by omega)
      subst htu
      rcases List.mem_cons.1 (h x List.mem_cons_self) with e | e
      · rw [e]
      · exact absurd (a1 x e) (by omega)
open Classical in
/-- A set as a list. -/
noncomputable def listP (P : Int → Prop) (V : Nat) : List Int := ((List.range V).map (fun n : Nat => (n : Int))).filter (fun v => decide (P v))
theorem listP_inc (P : Int → Prop) (V : Nat) : Inc (listP P V) := by
  unfold listP
  refine Inc.filter ?_ _
  unfold Inc
  rw [List.pairwise_map]
  exact List.pairwise_lt_range.imp (fun h => by omega)
theorem mem_listP {P : Int → Prop} {V : Nat} {v : Int} : v ∈ listP P V ↔ (0 ≤ v ∧ v < V) ∧ P v := by
  unfold listP
  rw [List.mem_filter, List.mem_map]
  constructor
  · rintro ⟨⟨n, hn, rfl⟩, h2⟩
    exact ⟨⟨by omega, by have := List.mem_range.1 hn; omega⟩, by simpa using h2⟩
  · rintro ⟨⟨h1, h2⟩, h3⟩
    exact ⟨⟨v.toNat, List.mem_range.2 (by omega), by omega⟩, by simpa using h3⟩
end Go.Proofs.Ytmcnoeinjocimaa.L

set_option linter.unusedVariables false
set_option linter.unusedSimpArgs false
namespace Go.Proofs.Ytmcnoeinjocimaa.L
open Go.RowKit
theorem defs_eq {s : Sa} {D T : List Int} {M : List (List Bool)} (h : GoodV s D T M) : (defsS s).getD [] = List.replicate 12 0 ++ D.drop 12 ∧ (D.length : Int) = s.values := by
  obtain ⟨h1, h2, S, h3, h4⟩ := (sim_parts h.v1 s.parts 0 _ _ (List.replicate s.values.toNat 0) (by omega) (rel0 h.v1)).1 D T h.ps
  have hd : defsS s = some S := h3
  have hv := h.v1
  have hl1 := h4.l1
  have hl2 := h4.l2
  rw [hd]
  refine ⟨?_, hl2⟩
  show S = _
  apply List.ext_getElem
  · rw [List.length_append, List.length_replicate, List.length_drop]; omega
  intro i a b
  have e : S[i] = S.getD i 0 := by rw [List.getD_eq_getElem?_getD, List.getElem?_eq_getElem a]; rfl
  rw [e]
  by_cases hi : i < 12
  · rw [h4.lo i hi, List.getElem_append_left (by rw [List.length_replicate]; exact hi), List.getElem_replicate]
  · rw [h4.hi i (by omega), List.getElem_append_right (by rw [List.length_replicate]; omega), List.getElem_drop, List.getD_eq_getElem?_getD]
    simp only [List.length_replicate]
    have hi2 : 12 + (i - 12) = i := by omega
    rw [List.getElem?_eq_getElem (show i < D.length by omega)]
    simp only [hi2, Option.getD_some]
end Go.Proofs.Ytmcnoeinjocimaa.L

set_option linter.unusedVariables false
set_option linter.unusedSimpArgs false
namespace Go.Proofs.Ytmcnoeinjocimaa.L
open Go.RowKit
theorem GoodP.rel {s : Sa} (h : GoodP s) : ∃ D T S, defsS s = some S ∧ Rel s.values S D ∧ partsI s 0 s.parts (List.replicate s.values.toNat (-1)) (List.replicate s.values.toNat 0) = some (D, T) := by
  obtain ⟨D, T, M, hg⟩ := (good_iff s).2 h
  obtain ⟨h1, h2, S, h3, h4⟩ := (sim_parts hg.v1 s.parts 0 _ _ (List.replicate s.values.toNat 0) (by omega) (rel0 hg.v1)).1 D T hg.ps
  exact ⟨D, T, S, h3, h4, hg.ps⟩
theorem GoodP.own_def {s : Sa} (h : GoodP s) {q : Nat} {p : Pt} (hq : s.parts[q]? = some p) {v : Int} (hv : v ∈ ownS p) : 12 ≤ v ∧ v < s.values ∧ ((defsS s).getD [])[v.toNat]! = q := by
  obtain ⟨D, T, S, h1, h2, h3⟩ := h.rel
  have hV := h.v1
  have hl1 : ((List.replicate s.values.toNat (-1 : Int)).length : Int) = s.values := by rw [List.length_replicate]; omega
  have hl2 : ((List.replicate s.values.toNat (0 : Int)).length : Int) = s.values := by rw [List.length_replicate]; omega
  obtain ⟨-, -, a3, -⟩ := partsI_spec s.parts 0 _ _ D T (by omega) hl1 hl2 h3
  rw [← items_fst] at hv
  obtain ⟨x, hx, rfl⟩ := List.mem_map.1 hv
  obtain ⟨b1, b2, b3, _⟩ := a3 q p hq x hx
  refine ⟨b1, b2, ?_⟩
  have hS := h2.l1
  rw [h1]
  show S[x.1.toNat]! = _
  rw [getD_bang S _ (by omega), h2.hi _ (by omega), b3]
  omega
theorem GoodP.defs_len {s : Sa} (h : GoodP s) : (((defsS s).getD []).length : Int) = s.values := by
  obtain ⟨D, T, S, h1, h2, h3⟩ := h.rel
  rw [h1]; exact h2.l1
theorem GoodP.use_far {s : Sa} (h : GoodP s) {q : Nat} {p : Pt} (hq : s.parts[q]? = some p) {j : Nat} {x : Fl} (hx : p.code[j]? = some x) {v : Int} (hv : v ∈ usesS x) (ho : v ∈ ownS p) : v ∈ p.params ++ dstsS (p.code.take j) := by
  obtain ⟨h1, h2, h3⟩ := h.own_def hq ho
  obtain ⟨_, _, ht⟩ := (h.us q p hq).code j x hx v hv
  rcases ht with ht | ht | ⟨_, ht, _⟩
  · omega
  · exact ht
  · exact absurd h3 ht
theorem GoodP.use_in {s : Sa} (h : GoodP s) {q : Nat} {p : Pt} (hq : s.parts[q]? = some p) {v : Int} (hv : v ∈ endsS p ∨ v ∈ p.code.flatMap usesS) : 0 ≤ v ∧ v < s.values := by
  have hl := h.defs_len
  rcases hv with hv | hv
  · obtain ⟨a, b, _⟩ := (h.us q p hq).ends v hv
    exact ⟨a, by omega⟩
  · obtain ⟨x, hx, hv⟩ := List.mem_flatMap.1 hv
    obtain ⟨j, hj⟩ := List.getElem?_of_mem hx
    obtain ⟨a, b, _⟩ := (h.us q p hq).code j x hj v hv
    exact ⟨a, by omega⟩
theorem LvI.range {s : Sa} (h : GoodP s) {k : Nat} {v : Int} (hv : LvI s k v) : 0 ≤ v ∧ v < s.values := by
  induction hv with
  | own hp h1 hn => exact h.use_in hp h1
  | flow hp hx _ hn ih => exact ih
theorem GoodP.uses_eq {s : Sa} (h : GoodP s) {p : Pt} (hp : p ∈ s.parts) {x : Fl} (hx : x ∈ p.code) : usesI x = usesS x :=
  L.uses_eq (flat_op (static_flat (h.static hp) x hx))
/-- A value is needed ahead of steps, of those needed behind them. -/
def LC (O : Int → Prop) : List Fl → Int → Prop
  | [], v => O v
  | x :: t, v => v ∈ usesI x ∨ (¬ (setsS x = true ∧ v = x.dst) ∧ LC O t v)
theorem LC.of_not {O : Int → Prop} {v : Int} : ∀ {l : List Fl}, v ∉ dstsS l → (O v ∨ ∃ x ∈ l, v ∈ usesI x) → LC O l v
  | [], _, h => by rcases h with h | ⟨x, hx, _⟩; exact h; simp at hx
  | x :: t, hn, h => by
    have hn1 : ¬ (setsS x = true ∧ v = x.dst) := fun ⟨a, b⟩ => hn (by unfold dstsS; rw [List.filter_cons, if_pos a, List.map_cons, b]; exact List.mem_cons_self)
    have hn2 : v ∉ dstsS t := fun a => hn (by unfold dstsS at a ⊢; rw [List.filter_cons]; split; exact List.mem_cons_of_mem _ a; exact a)
    by_cases hx : v ∈ usesI x
    · exact .inl hx
    · refine .inr ⟨hn1, LC.of_not hn2 ?_⟩
      rcases h with h | ⟨y, hy, h⟩
      · exact .inl h
      · rcases List.mem_cons.1 hy with rfl | hy
        · exact absurd h hx
        · exact .inr ⟨y, hy, h⟩
theorem LC.to {s : Sa} (h : GoodP s) {q : Nat} {p : Pt} (hq : s.parts[q]? = some p) {O : Int → Prop} {v : Int} : ∀ (n i : Nat), n = p.code.length - i → i ≤ p.code.length → v ∉ p.params ++ dstsS (p.code.take i) → LC O (p.code.drop i) v →
    (O v ∨ v ∈ p.code.flatMap usesS) ∧ v ∉ ownS p
  | 0, i, hn, hi, h1, h2 => by
    obtain rfl : i = p.code.length := by omega
    rw [List.take_length] at h1
    rw [List.drop_length] at h2
    exact ⟨.inl h2, h1⟩
  | n + 1, i, hn, hi, h1, h2 => by
    have hlt : i < p.code.length := by omega
    rw [List.drop_eq_getElem_cons hlt] at h2
    have hmem := List.getElem_mem hlt
    rcases h2 with h2 | ⟨h3, h2⟩
    · rw [h.uses_eq (List.mem_of_getElem? hq) hmem] at h2
      exact ⟨.inr (List.mem_flatMap.2 ⟨_, hmem, h2⟩), fun ho => h1 (h.use_far hq (List.getElem?_eq_getElem hlt) h2 ho)⟩
    · refine LC.to h hq n (i + 1) (by omega) (by omega) (fun hm => ?_) h2
      rw [dstsS_take hlt] at hm
      split at hm
      · rename_i hs
        rcases List.mem_append.1 hm with hm | hm
        · exact h1 (List.mem_append.2 (.inl hm))
        · rcases List.mem_append.1 hm with hm | hm
          · exact h1 (List.mem_append.2 (.inr hm))
          · exact h3 ⟨hs, List.mem_singleton.1 hm⟩
      · exact h1 hm
theorem LC_iff {s : Sa} (h : GoodP s) {q : Nat} {p : Pt} (hq : s.parts[q]? = some p) {O : Int → Prop} {v : Int} : (LC O p.code v ∧ v ∉ p.params) ↔ ((O v ∨ v ∈ p.code.flatMap usesS) ∧ v ∉ ownS p) := by
  constructor
  · rintro ⟨h1, h2⟩
    exact LC.to h hq (p.code.length - 0) 0 rfl (Nat.zero_le _) (by rw [List.take_zero]; show v ∉ p.params ++ []; rw [List.append_nil]; exact h2) h1
  · rintro ⟨h1, h2⟩
    have hn : ¬ (v ∈ p.params ∨ v ∈ dstsS p.code) := fun h => h2 (List.mem_append.2 h)
    refine ⟨LC.of_not (fun hv => hn (.inr hv)) (h1.imp id fun hv => ?_), fun hv => hn (.inl hv)⟩
    obtain ⟨x, hx, hv⟩ := List.mem_flatMap.1 hv
    exact ⟨x, hx, by rw [h.uses_eq (List.mem_of_getElem? hq) hx]; exact hv⟩
/-- A set as the program keeps it. -/
def addB (S : List Bool) (l : List Int) : List Bool := l.foldl (fun S v => S.set v.toNat true) S
def delB (S : List Bool) (l : List Int) : List Bool := l.foldl (fun S v => S.set v.toNat false) S
def stepB (S : List Bool) (x : Fl) : List Bool := addB (if setsS x then S.set x.dst.toNat false else S) (usesI x)
def liveC (l : List Fl) (S : List Bool) : List Bool := l.foldr (fun x S => stepB S x) S
def liveB (p : Pt) (S : List Bool) : List Bool := delB (liveC p.code S) p.params
def InB (S : List Bool) (v : Int) : Prop := 0 ≤ v ∧ S.getD v.toNat false = true
theorem addB_len (S : List Bool) (l : List Int) : (addB S l).length = S.length := by
  unfold addB
  induction l generalizing S with
  | nil => rfl
  | cons x t ih => rw [List.foldl_cons, ih, List.length_set]
theorem delB_len (S : List Bool) (l : List Int) : (delB S l).length = S.length := by
  unfold delB
  induction l generalizing S with
  | nil => rfl
  | cons x t ih => rw [List.foldl_cons, ih, List.length_set]
theorem stepB_len (S : List Bool) (x : Fl) : (stepB S x).length = S.length := by
  unfold stepB; rw [addB_len]; split <;> simp
theorem liveC_len (l : List Fl) (S : List Bool) : (liveC l S).length = S.length := by
  induction l with
  | nil => rfl
  | cons x t ih => show (stepB (liveC t S) x).length = _; rw [stepB_len, ih]
theorem liveB_len (p : Pt) (S : List Bool) : (liveB p S).length = S.length := by unfold liveB; rw [delB_len, liveC_len]
theorem getD_setB (S : List Bool) (m n : Nat) (b : Bool) (hm : m < S.length) : (S.set m b).getD n false = if n = m then b else S.getD n false := by
  rw [List.getD_eq_getElem?_getD, List.getD_eq_getElem?_getD, List.getElem?_set]
  by_cases h : m = n
  · subst h; simp [hm]
  · rw [if_neg h, if_neg (fun e => h e.symm)]
theorem InB_set {S : List Bool} {m v : Int} {b : Bool} (h0 : 0 ≤ m) (hm : m < S.length) : InB (S.set m.toNat b) v ↔ (if v = m then b = true else InB S v) := by
  unfold InB
  rw [getD_setB _ _ _ _ (by omega)]
  by_cases h : v = m
  · subst h; simp [h0]
  · rw [if_neg h]
    by_cases hv : 0 ≤ v
    · rw [if_neg (by omega)]
    · simp [hv]
theorem InB_add {l : List Int} : ∀ {S : List Bool} {v : Int}, (∀ m ∈ l, 0 ≤ m ∧ m < S.length) → (InB (addB S l) v ↔ v ∈ l ∨ InB S v) := by
  induction l with
  | nil => intro S v _; simp [addB]
  | cons m t ih =>
    intro S v h
    have hm := h m List.mem_cons_self
    show InB (addB (S.set m.toNat true) t) v ↔ _
    rw [ih (fun q hq => by rw [List.length_set]; exact h q (List.mem_cons_of_mem _ hq)), InB_set hm.1 hm.2, List.mem_cons]
    by_cases e : v = m
    · subst e; simp
    · simp [e]
theorem InB_del {l : List Int} : ∀ {S : List Bool} {v : Int}, (∀ m ∈ l, 0 ≤ m ∧ m < S.length) → (InB (delB S l) v ↔ v ∉ l ∧ InB S v) := by
  induction l with
  | nil => intro S v _; simp [delB]
  | cons m t ih =>
    intro S v h
    have hm := h m List.mem_cons_self
    show InB (delB (S.set m.toNat false) t) v ↔ _
    rw [ih (fun q hq => by rw [List.length_set]; exact h q (List.mem_cons_of_mem _ hq)), InB_set hm.1 hm.2, List.mem_cons]
    by_cases e : v = m
    · subst e; simp
    · simp [e]
theorem InB_step {S : List Bool} {x : Fl} {v : Int} (hd : setsS x = true → 0 ≤ x.dst ∧ x.dst < S.length) (hu : ∀ m ∈ usesI x, 0 ≤ m ∧ m < S.length) : InB (stepB S x) v ↔ v ∈ usesI x ∨ (¬ (setsS x = true ∧ v = x.dst) ∧ InB S v) := by
  unfold stepB
  by_cases hs : setsS x = true
  · rw [if_pos hs, InB_add (by rw [List.length_set]; exact hu), InB_set (hd hs).1 (hd hs).2]
    by_cases e : v = x.dst <;> simp [e, hs]
  · rw [if_neg hs, InB_add hu]
    simp [hs]
theorem InB_code {S : List Bool} {v : Int} : ∀ {l : List Fl}, (∀ x ∈ l, (setsS x = true → 0 ≤ x.dst ∧ x.dst < S.length) ∧ ∀ m ∈ usesI x, 0 ≤ m ∧ m < S.length) → (InB (liveC l S) v ↔ LC (InB S) l v)
  | [], _ => Iff.rfl
  | x :: t, h => by
    have hx := h x List.mem_cons_self
    show InB (stepB (liveC t S) x) v ↔ _
    rw [InB_step (by rw [liveC_len]; exact hx.1) (by rw [liveC_len]; exact hx.2), InB_code (fun y hy => h y (List.mem_cons_of_mem _ hy))]
    exact Iff.rfl
theorem GoodP.steps_in {s : Sa} (h : GoodP s) {q : Nat} {p : Pt} (hq : s.parts[q]? = some p) {x : Fl} (hx : x ∈ p.code) : (setsS x = true → 12 ≤ x.dst ∧ x.dst < s.values) ∧ ∀ m ∈ usesI x, 0 ≤ m ∧ m < s.values := by
  refine ⟨fun hs => ?_, fun m hm => ?_⟩
  · obtain ⟨h1, h2, _⟩ := h.own_def hq (v := x.dst) (List.mem_append.2 (.inr (by unfold dstsS; exact List.mem_map.2 ⟨x, List.mem_filter.2 ⟨hx, hs⟩, rfl⟩)))
    exact ⟨h1, h2⟩
  · rw [h.uses_eq (List.mem_of_getElem? hq) hx] at hm
    exact h.use_in hq (.inr (List.mem_flatMap.2 ⟨x, hx, hm⟩))
theorem InB_live {s : Sa} (h : GoodP s) {q : Nat} {p : Pt} (hq : s.parts[q]? = some p) {S : List Bool} (hS : (S.length : Int) = s.values) {v : Int} : InB (liveB p S) v ↔ ((InB S v ∨ v ∈ p.code.flatMap usesS) ∧ v ∉ ownS p) := by
  unfold liveB
  rw [InB_del (fun m hm => by
      have := h.own_def hq (v := m) (List.mem_append.2 (.inl hm))
      rw [liveC_len]; omega), InB_code (fun x hx => by
      have := h.steps_in hq hx
      refine ⟨fun hs => ?_, fun m hm => ?_⟩
      · have := this.1 hs; omega
      · have := this.2 m hm; omega), and_comm]
  exact LC_iff h hq
end Go.Proofs.Ytmcnoeinjocimaa.L
