/- What is stored into a row of one's own, put behind it, and made. -/
import Derived.Test.YtmcnoeinjocimaaLib2
set_option linter.unusedVariables false
namespace Go.Proofs.Ytmcnoeinjocimaa.L
open Go.RowKit
/-- Cells stored one after the other, as a store of a whole value does. -/
def putRow (w : World) (g : Nat) : Nat → List Value → World
  | _, [] => w
  | o, u :: us => putRow (w.setCell ⟨g, o, none⟩ u) g (o + 1) us
def seg (xs : List Value) : Nat → List Value → List Value
  | _, [] => xs
  | o, u :: us => seg (xs.set o u) (o + 1) us
theorem seg_length (us : List Value) : ∀ (xs : List Value) (o : Nat), (seg xs o us).length = xs.length := by
  induction us with
  | nil => intro xs o; rfl
  | cons u us ih => intro xs o; rw [seg, ih, List.length_set]
theorem seg_get (us : List Value) : ∀ (xs : List Value) (o k : Nat), o + us.length ≤ xs.length → (seg xs o us)[k]? = if o ≤ k ∧ k < o + us.length then us[k - o]? else xs[k]? := by
  induction us with
  | nil =>
    intro xs o k _
    rw [seg, if_neg (by simp only [List.length_nil]; omega)]
  | cons u us ih =>
    intro xs o k h
    simp only [List.length_cons] at h ⊢
    rw [seg, ih _ _ _ (by rw [List.length_set]; omega), List.getElem?_set]
    by_cases h1 : o + 1 ≤ k ∧ k < o + 1 + us.length
    · rw [if_pos h1, if_pos (by omega)]
      obtain ⟨d, rfl⟩ : ∃ d, k = o + 1 + d := ⟨k - (o + 1), by omega⟩
      rw [show o + 1 + d - (o + 1) = d by omega, show o + 1 + d - o = d + 1 by omega, List.getElem?_cons_succ]
    · rw [if_neg h1]
      by_cases h2 : o = k
      · subst h2
        rw [if_pos rfl, if_pos (by omega), if_pos (by omega), Nat.sub_self, List.getElem?_cons_zero]
      · rw [if_neg h2, if_neg (by omega)]
theorem putRow_owns {e : TypeId} {size n c g : Nat} (us : List Value) : ∀ (w : World) (xs : List Value) (o : Nat), w.ownsRow 0 e size (.slice (some ⟨g, 0, none⟩) n c) n xs →
    (putRow w g o us).ownsRow 0 e size (.slice (some ⟨g, 0, none⟩) n c) n (seg xs o us) ∧ w.grownBy (putRow w g o us) (some g) := by
  induction us with
  | nil => intro w xs o h; exact ⟨h, World.grownBy.refl w _⟩
  | cons u us ih =>
    intro w xs o h
    have h1 := h.stored o u
    have h2 := ih _ _ (o + 1) h1.1
    refine ⟨h2.1, ⟨h2.2.os.trans h1.2.os, h2.2.tape.trans h1.2.tape, h2.2.output.trans h1.2.output, Nat.le_trans h1.2.size h2.2.size, fun k hk hne => ?_⟩⟩
    exact (h2.2.block k (Nat.lt_of_lt_of_le hk h1.2.size) hne).trans (h1.2.block k hk hne)
theorem seg_drop {xs us : List Value} {sz n : Nat} (hx : xs.length = n * sz) {i : Nat} (hi : i < n) (hu : us.length = sz) (j : Nat) (hj : j < n) :
    ((seg xs (i * sz) us).drop (j * sz)).take sz = if j = i then us else (xs.drop (j * sz)).take sz := by
  have hb : i * sz + us.length ≤ xs.length := by
    rw [hx, hu]
    calc i * sz + sz = (i + 1) * sz := by rw [Nat.succ_mul]
      _ ≤ n * sz := Nat.mul_le_mul_right _ hi
  have hjb : j * sz + sz ≤ n * sz := by
    calc j * sz + sz = (j + 1) * sz := by rw [Nat.succ_mul]
      _ ≤ n * sz := Nat.mul_le_mul_right _ hj
  apply List.ext_getElem?
  intro q
  rw [List.getElem?_take]
  by_cases hq : q < sz
  · rw [if_pos hq, List.getElem?_drop, seg_get _ _ _ _ hb]
    by_cases hji : j = i
    · subst hji
      rw [if_pos rfl, if_pos (by omega), show j * sz + q - j * sz = q by omega]
    · rw [if_neg hji, List.getElem?_take, if_pos hq, List.getElem?_drop, if_neg ?_]
      rintro ⟨h1, h2⟩
      rw [hu] at h2
      rcases Nat.lt_or_gt_of_ne hji with h | h
      · have : (j + 1) * sz ≤ i * sz := Nat.mul_le_mul_right _ h
        rw [Nat.succ_mul] at this
        omega
      · have : (i + 1) * sz ≤ j * sz := Nat.mul_le_mul_right _ h
        rw [Nat.succ_mul] at this
        omega
  · rw [if_neg hq]
    by_cases hji : j = i
    · subst hji
      rw [if_pos rfl, List.getElem?_eq_none (by omega)]
    · rw [if_neg hji, List.getElem?_take, if_neg hq]
theorem grown_same {w w' : World} {g : Nat} (h : w.grownBy w' (some g)) {F : Nat → Prop} (hF : ¬ F g) : Same F w w' := fun k hk hlt => h.block k hlt (fun e => by cases e; exact hF hk)
theorem putRow_same (us : List Value) (g : Nat) : ∀ (w : World) (o : Nat), (putRow w g o us).heap.size = w.heap.size ∧ ∀ k, k ≠ g → (putRow w g o us).heap[k]? = w.heap[k]? := by
  induction us with
  | nil => intro w o; exact ⟨rfl, fun _ _ => rfl⟩
  | cons u us ih =>
    intro w o
    obtain ⟨h1, h2⟩ := ih (w.setCell ⟨g, o, none⟩ u) (o + 1)
    exact ⟨by rw [putRow, h1]; simp, fun k hk => by rw [putRow, h2 k hk]; exact heap_setCell_other w ⟨g, o, none⟩ k u hk⟩
theorem putRow_below {B : Nat} {w0 w : World} (h : Below B w0 w) {g : Nat} (hg : B ≤ g) (us : List Value) : ∀ (o : Nat), Below B w0 (putRow w g o us) := by
  induction us generalizing w with
  | nil => intro o; exact h
  | cons u us ih => intro o; exact ih (h.setCell (by simpa using hg) u) (o + 1)
namespace Ow
section
variable {α : Type} {ap : Bool} {e : Nat} {r : Rp α} {w w' : World} {F G : Nat → Prop} {v : Value} {l : List α}
/-- Element i is stored anew; what it leads to is none of the row's. -/
theorem put (h : Ow ap e r w F v l) {g n c : Nat} (hv : v = .slice (some ⟨g, 0, none⟩) n c) {i : Nat} (hi : i < l.length) {y : α} {us : List Value} (hy : r.K w G y us) (hG : ∀ k, G k → ¬ F k) :
    Ow ap e r (putRow w g (i * r.sz) us) (fun k => F k ∨ G k) v (l.set i y) := by
  obtain ⟨φ, xs, h1, h2, h3, h4, h5⟩ := h
  subst hv
  obtain rfl : n = l.length := by
    rcases h1.2 with ⟨hh, _⟩ | ⟨g', cap', cur', hh, _⟩
    · cases hh
    · injection hh
  have hg : F g := h2 g (by simp [Value.ownBlock])
  have hp := putRow_owns us w xs (i * r.sz) h1
  have hus : us.length = r.sz := r.len hy
  refine ⟨fun j k => if j = i then G k else φ j k, seg xs (i * r.sz) us, by rw [List.length_set]; exact hp.1, fun k hk => .inl (h2 k hk), ?_, ?_, ?_⟩
  · intro j k hk
    split at hk
    · exact ⟨.inr hk, fun he => hG k hk (h2 k he)⟩
    · exact ⟨.inl (h3 j k hk).1, (h3 j k hk).2⟩
  · intro ha p q k hp hq
    split at hp <;> split at hq
    · omega
    · exact absurd (h3 q k hq).1 (hG k hp)
    · exact absurd (h3 p k hp).1 (hG k hq)
    · exact h4 ha p q k hp hq
  · intro j x hx
    rw [List.getElem?_set] at hx
    have hjl : j < l.length := by
      rcases Nat.lt_or_ge j l.length with hh | hh
      · exact hh
      · split at hx
        · omega
        · rw [List.getElem?_eq_none hh] at hx; cases hx
    rw [seg_drop h1.1 hi hus j hjl]
    by_cases hji : j = i
    · subst hji
      rw [if_pos rfl, if_pos hi] at hx
      cases hx
      simp only [if_true]
      refine r.move (fun k hk hlt => hp.2.block k hlt (fun he => by cases he; exact hG _ hk hg)) hy
    · rw [if_neg (fun h => hji h.symm)] at hx
      simp only [if_neg hji]
      refine r.move (fun k hk hlt => hp.2.block k hlt (fun he => by cases he; exact (h3 j _ hk).2 (by simp [Value.ownBlock]))) (h5 j x hx)
theorem of_grown (h : Ow ap e r w F v l) {row : Option Nat} (hg : w.grownBy w' row) (hr : ∀ k, row = some k → ¬ F k) : Ow ap e r w' F v l :=
  h.move (fun k hk hlt => hg.block k hlt (fun he => hr k he.symm hk))
/-- Elements put behind: what they lead to is none of the row's. ψ: where each leads. -/
theorem snoc (h : Ow ap e r w F v l) {v1 : Value} {w1 : World} {ys : List α} {news : List Value} {m : Nat} (hm : m = ys.length) (hown : ∀ xs, w.ownsRow 0 e r.sz v l.length xs → w1.ownsRow 0 e r.sz v1 (l.length + m) (xs ++ news))
    (hg : w.grownBy w1 v.ownBlock) (hat : v1.ownBlock = v.ownBlock ∨ ∃ b, v1.ownBlock = some b ∧ w.heap.size ≤ b) (ψ : Nat → Nat → Prop)
    (hy : ∀ i y, ys[i]? = some y → r.K w (ψ i) y ((news.drop (i * r.sz)).take r.sz)) (hψ : ∀ i k, ψ i k → ¬ F k ∧ G k) (hap : ap = true → ∀ i j k, ψ i k → ψ j k → i = j) (hGF : ∀ k, F k → G k) (hnew : ∀ k, w.heap.size ≤ k → G k) :
    Ow ap e r w1 G v1 (l ++ ys) := by
  subst hm
  obtain ⟨φ, xs, h1, h2, h3, h4, h5⟩ := h
  have hx := h1.1
  refine ⟨fun i k => k < w.heap.size ∧ if i < l.length then φ i k else ψ (i - l.length) k, xs ++ news, by rw [List.length_append]; exact hown xs h1, ?_, ?_, ?_, ?_⟩
  · intro k hk
    rcases hat with hat | ⟨b, hb, hbl⟩
    · rw [hat] at hk; exact hGF k (h2 k hk)
    · rw [hb] at hk; cases hk; exact hnew _ hbl
  · intro i k hk
    obtain ⟨hlt, hk⟩ := hk
    split at hk
    · refine ⟨hGF k (h3 i k hk).1, fun he => ?_⟩
      rcases hat with hat | ⟨b, hb, hbl⟩
      · rw [hat] at he; exact (h3 i k hk).2 he
      · rw [hb] at he; cases he; omega
    · refine ⟨(hψ _ k hk).2, fun he => ?_⟩
      rcases hat with hat | ⟨b, hb, hbl⟩
      · rw [hat] at he; exact (hψ _ k hk).1 (h2 k he)
      · rw [hb] at he; cases he; omega
  · intro ha p q k hp hq
    obtain ⟨_, hp⟩ := hp
    obtain ⟨_, hq⟩ := hq
    split at hp <;> split at hq
    · exact h4 ha p q k hp hq
    · exact absurd (h3 p k hp).1 (hψ _ k hq).1
    · exact absurd (h3 q k hq).1 (hψ _ k hp).1
    · have := hap ha _ _ k hp hq; omega
  · intro i x hx'
    by_cases hi : i < l.length
    · rw [List.getElem?_append_left hi] at hx'
      have hle : i * r.sz + r.sz ≤ xs.length := by
        rw [hx]
        calc i * r.sz + r.sz = (i + 1) * r.sz := by rw [Nat.succ_mul]
          _ ≤ l.length * r.sz := Nat.mul_le_mul_right _ hi
      rw [List.drop_append_of_le_length (by omega), List.take_append_of_le_length (by rw [List.length_drop]; omega)]
      have hk := r.bound (h5 i x hx')
      refine r.mono (fun k hk => ⟨hk.2, by rw [if_pos hi]; exact hk.1⟩) (r.move (fun k hk hlt => hg.block k hlt (fun he => (h3 i k hk.1).2 he.symm)) hk)
    · rw [List.getElem?_append_right (by omega)] at hx'
      have hd : (xs ++ news).drop (i * r.sz) = news.drop ((i - l.length) * r.sz) := by
        have : i * r.sz = xs.length + (i - l.length) * r.sz := by rw [hx, ← Nat.add_mul]; congr 1; omega
        rw [this, List.drop_append]
        simp
      rw [hd]
      have hk := r.bound (hy _ x hx')
      refine r.mono (fun k hk => ⟨hk.2, by rw [if_neg hi]; exact hk.1⟩) (r.move (fun k hk hlt => hg.block k hlt (fun he => (hψ _ k hk.1).1 (h2 k he.symm))) hk)
end
end Ow
end Go.Proofs.Ytmcnoeinjocimaa.L
