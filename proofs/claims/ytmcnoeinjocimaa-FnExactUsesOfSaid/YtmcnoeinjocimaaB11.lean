/- Joined texts, each of which was built by itself: JOp. -/
import Derived.Test.YtmcnoeinjocimaaB10
import Derived.Test.YtmcnoeinjocimaaB1
import Derived.ProofKit
import Derived.Test.YtmcnoeinjocimaaProg
import Derived.Test.YtmcnoeinjocimaaB2
set_option linter.unusedVariables false
namespace Go.Proofs.Ytmcnoeinjocimaa.L
open Go.RowKit Go.ChangeShapes Go.WideShapes
structure Opens (P : Program) (t : TypeId) {α : Type} (r : Rp α) : Prop where
  cells : P.cellsOf t = r.sz
  out : ∀ {H : Type} (enc : TypeId × Value → H) (w : World) (fuel : Nat) (cs : List Value) (x : DataW H × List MemPlace),
    DataW.trod enc P w 0 (fun _ => true) true fuel t cs = some x → ∃ y, r.K w (fun _ => True) y cs
structure OpensFs (P : Program) (fs : List Field) (off : Nat) {α : Type} (r : Rp α) : Prop where
  out : ∀ {H : Type} (enc : TypeId × Value → H) (w : World) (n : Nat) (cs : List Value), off + r.sz ≤ cs.length →
    (∀ (i : Nat) (f : Field), fs[i]? = some f → ∃ x, DataW.trod enc P w 0 (fun _ => true) true n f.type ((cs.drop f.offset).take (P.cellsOf f.type)) = some x) → ∃ y, r.K w (fun _ => True) y ((cs.drop off).take r.sz)
namespace Opens
variable {P : Program} {t : TypeId}
theorem int (ht : P.underlying t = some (.int .i64)) (hc : P.cellsOf t = 1) : Opens P t Rp.int := ⟨hc, fun enc w fuel cs x h => by
  obtain ⟨n, rfl, _⟩ := DataW.trod_int ht h
  exact ⟨n, rfl⟩⟩
theorem bool (ht : P.underlying t = some .bool) (hc : P.cellsOf t = 1) : Opens P t Rp.bool := ⟨hc, fun enc w fuel cs x h => by
  obtain ⟨n, rfl, _⟩ := DataW.trod_bool ht h
  exact ⟨n, rfl⟩⟩
theorem str (ht : P.underlying t = some .string) (hc : P.cellsOf t = 1) : Opens P t Rp.str := ⟨hc, fun enc w fuel cs x h => by
  obtain ⟨n, rfl, _⟩ := DataW.trod_string ht h
  exact ⟨n, rfl⟩⟩
theorem mapM_get {β γ : Type} {f : β → Option γ} : ∀ {l : List β} {ys : List γ}, l.mapM f = some ys → ∀ (i : Nat) (b : β), l[i]? = some b → ∃ y, ys[i]? = some y ∧ f b = some y
  | [], ys, h, i, b, hb => by simp at hb
  | a :: l, ys, h, i, b, hb => by
    rw [List.mapM_cons] at h
    cases ha : f a with
    | none => rw [ha] at h; cases h
    | some y =>
      rw [ha] at h
      cases hl : l.mapM f with
      | none => rw [hl] at h; cases h
      | some zs =>
        rw [hl] at h
        cases h
        cases i with
        | zero => cases hb; exact ⟨y, rfl, ha⟩
        | succ i => exact mapM_get hl i b hb
theorem cells_get {w : World} {a : Addr} {n : Nat} {cs : List Value} (h : w.cells? 0 a n = some cs) : cs.length = n ∧ ∀ j u, cs[j]? = some u → w.cell? (a.add j) = some u := by
  unfold World.cells? at h
  rw [if_pos (Nat.zero_le _)] at h
  have hl : ∀ {l : List Nat} {ys : List Value}, l.mapM (fun i => w.cell? (a.add i)) = some ys → ys.length = l.length := by
    intro l
    induction l with
    | nil => intro ys h; cases h; rfl
    | cons b l ih =>
      intro ys h
      rw [List.mapM_cons] at h
      cases hb : w.cell? (a.add b) with
      | none => rw [hb] at h; cases h
      | some y =>
        rw [hb] at h
        cases hl : l.mapM (fun i => w.cell? (a.add i)) with
        | none => rw [hl] at h; cases h
        | some zs => rw [hl] at h; cases h; simp [ih hl]
  have hlen := hl h
  rw [List.length_range] at hlen
  refine ⟨hlen, fun j u hu => ?_⟩
  have hj : j < n := by rw [← hlen]; exact (List.getElem?_eq_some_iff.1 hu).1
  obtain ⟨y, hy, hc⟩ := mapM_get h j j (by rw [List.getElem?_range hj])
  rw [hu] at hy
  cases hy
  exact hc
theorem plain_of_cell {w : World} {a : Addr} {u : Value} (h : w.cell? a = some u) : a = ⟨a.block, a.off, none⟩ ∧ a.block < w.heap.size := by
  obtain ⟨b, o, s⟩ := a
  unfold World.cell? at h
  split at h
  · rename_i c t fr hb
    cases s with
    | none => exact ⟨rfl, (Array.getElem?_eq_some_iff.1 hb).1⟩
    | some s => simp at h
  · cases h
theorem slice {e : TypeId} {α : Type} {r : Rp α} (h : Opens P e r) (ht : P.underlying t = some (.slice e)) (hc : P.cellsOf t = 1) (h0 : 0 < r.sz) : Opens P t (Rp.sl r) := ⟨hc, fun enc w fuel cs x hx => by
  rcases Deep.open_slice ht hx with ⟨rfl, _⟩ | ⟨a, len, cap, m, n, D, Pl, rfl, _, hl, hm, hmm, _, hel⟩
  · exact ⟨[], _, rfl, Rp.Rd.nil r w _⟩
  · simp only [if_true] at hmm
    have each : ∀ i, i < len → ∃ y cs', r.K w (fun _ => True) y cs' ∧ (∀ j u, cs'[j]? = some u → w.cell? ((a.add (i * r.sz)).add j) = some u) ∧ cs'.length = r.sz := by
      intro i hi
      obtain ⟨cs', h1, h2⟩ := hel i (by omega)
      rw [h.cells] at h1
      obtain ⟨y, hy⟩ := h.out enc w n cs' _ h2
      obtain ⟨hlen, hcell⟩ := cells_get h1
      exact ⟨y, cs', hy, hcell, hlen⟩
    by_cases hz : len = 0
    · subst hz
      exact ⟨[], _, rfl, some a, cap, rfl, by simp, hm, .inl rfl⟩
    · have ha : a = ⟨a.block, a.off, none⟩ ∧ a.block < w.heap.size := by
        obtain ⟨y, cs', _, hcell, hlen⟩ := each 0 (by omega)
        have hj : cs'[0]? = some (cs'[0]'(by omega)) := List.getElem?_eq_getElem (by omega)
        have := hcell 0 _ hj
        rw [Nat.zero_mul] at this
        have e0 : ((a.add 0).add 0) = a := by simp [Addr.add]
        rw [e0] at this
        exact plain_of_cell this
      obtain ⟨b, o, s⟩ := a
      simp only [Addr.mk.injEq, true_and] at ha
      obtain ⟨rfl, hb⟩ := ha
      let g : Nat → α := fun i => if hi : i < len then (each i hi).choose else (each 0 (by omega)).choose
      refine ⟨(List.range len).map g, _, rfl, some ⟨b, o, none⟩, cap, by simp, by simpa using hl, hm, .inr ⟨b, o, rfl, trivial, hb, fun i y hy => ?_⟩⟩
      rw [List.getElem?_map] at hy
      obtain ⟨i', hi', rfl⟩ := Option.map_eq_some_iff.1 hy
      have hlt : i < len := by
        rcases Nat.lt_or_ge i len with hh | hh
        · exact hh
        · rw [List.getElem?_eq_none (by simpa using hh)] at hi'; cases hi'
      rw [List.getElem?_range hlt] at hi'
      cases hi'
      obtain ⟨cs', hK, hcell, hlen⟩ := (each i hlt).choose_spec
      refine ⟨cs', ?_, fun j u hu => ?_⟩
      · show r.K w _ (g i) cs'
        have : g i = (each i hlt).choose := dif_pos hlt
        rw [this]; exact hK
      · have := hcell j u hu
        rw [Addr.add_lit, Addr.add_lit, Nat.add_assoc] at this
        exact this⟩
theorem last {f : Field} {off : Nat} {α : Type} {r : Rp α} (h : Opens P f.type r) (ho : f.offset = off) : OpensFs P [f] off r := ⟨fun enc w n cs hl hx => by
  obtain ⟨x, hx⟩ := hx 0 f rfl
  rw [h.cells, ho] at hx
  exact h.out enc w n _ x hx⟩
theorem cons {f : Field} {fs : List Field} {off : Nat} {α β : Type} {a : Rp α} {b : Rp β} (h : Opens P f.type a) (ho : f.offset = off) (hs : OpensFs P fs (off + a.sz) b) : OpensFs P (f :: fs) off (a.pair b) := ⟨fun enc w n cs hl hx => by
  have hl' : off + (a.sz + b.sz) ≤ cs.length := hl
  obtain ⟨x, h0⟩ := hx 0 f rfl
  rw [h.cells, ho] at h0
  obtain ⟨y, hy⟩ := h.out enc w n _ x h0
  obtain ⟨z, hz⟩ := hs.out enc w n cs (by omega) (fun i g hg => hx (i + 1) g hg)
  refine ⟨(y, z), _, _, ?_, hy, hz⟩
  show (cs.drop off).take (a.sz + b.sz) = _
  rw [List.take_add, List.drop_drop]⟩
theorem struct {fs : Array Field} {α β : Type} {r : Rp α} (hs : OpensFs P fs.toList 0 r) (ht : P.underlying t = some (.struct fs)) (hc : P.cellsOf t = r.sz) (f : β → α) (g : α → β) (hg : ∀ y, f (g y) = y) : Opens P t (r.iso f) := ⟨hc, fun enc w fuel cs x hx => by
  obtain ⟨xs, n, rfl, _, hlen, hxs, hfs⟩ := DataW.trod_struct ht hx
  rw [hc] at hlen
  obtain ⟨y, hy⟩ := hs.out enc w n cs (by omega) (fun i q hq => by
    have hq' : fs[i]? = some q := by rw [← Array.getElem?_toList]; exact hq
    have hi : i < xs.length := by rw [hxs]; exact (Array.getElem?_eq_some_iff.1 hq').1
    exact ⟨xs[i], by rw [hfs i q hq', List.getElem?_eq_getElem hi]⟩)
  refine ⟨g y, ?_⟩
  show r.K w _ (f (g y)) cs
  rw [hg, show cs = (cs.drop 0).take r.sz by rw [List.drop_zero, List.take_of_length_le (by omega)]]
  exact hy⟩
end Opens
end Go.Proofs.Ytmcnoeinjocimaa.L

set_option linter.unusedVariables false
namespace Go.Proofs.Ytmcnoeinjocimaa.L
open Go.RowKit
theorem opensInt : Opens Try.prog 3 Rp.int := Opens.int Try.underlying3 (by kernel_rfl)
theorem opensInts : Opens Try.prog 35 (Rp.sl Rp.int) := Opens.slice opensInt Try.underlying35 (by kernel_rfl) (by decide)
theorem opensIntss : Opens Try.prog 41 (Rp.sl (Rp.sl Rp.int)) := Opens.slice opensInts Try.underlying41 (by kernel_rfl) (by decide)
theorem opensFlat : Opens Try.prog 143 flat :=
  Opens.struct (fs := _) (Opens.cons opensInt rfl (Opens.cons opensInt rfl (Opens.cons opensInt rfl (Opens.cons opensInt rfl (Opens.cons opensInt rfl (Opens.last opensInt rfl)))))) Try.underlying143 (by kernel_rfl) Fl.t (fun p => ⟨p.1, p.2.1, p.2.2.1, p.2.2.2.1, p.2.2.2.2.1, p.2.2.2.2.2⟩) (fun _ => rfl)
theorem opensFlats : Opens Try.prog 95 (Rp.sl flat) := Opens.slice opensFlat Try.underlying95 (by kernel_rfl) (by decide)
theorem opensPart : Opens Try.prog 97 part :=
  Opens.struct (fs := _) (Opens.cons opensInts rfl (Opens.cons opensFlats rfl (Opens.cons opensInt rfl (Opens.cons opensInt rfl (Opens.cons opensInts rfl (Opens.last opensIntss rfl)))))) Try.underlying97 (by kernel_rfl) Pt.t (fun p => ⟨p.1, p.2.1, p.2.2.1, p.2.2.2.1, p.2.2.2.2.1, p.2.2.2.2.2⟩) (fun _ => rfl)
theorem opensParts : Opens Try.prog 22 (Rp.sl part) := Opens.slice opensPart Try.underlying22 (by kernel_rfl) (by decide)
theorem opensSsa : Opens Try.prog 24 ssa :=
  Opens.struct (fs := _) (Opens.cons opensParts rfl (Opens.last opensInt rfl)) Try.underlying24 (by kernel_rfl) Sa.t (fun p => ⟨p.1, p.2⟩) (fun _ => rfl)
end Go.Proofs.Ytmcnoeinjocimaa.L
