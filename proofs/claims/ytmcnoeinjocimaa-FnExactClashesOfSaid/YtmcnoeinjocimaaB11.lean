/- Joined texts, each of which was built by itself: JOp Px1 Px3 Px2 Px4 Px5 Df2. -/
import Derived.Test.YtmcnoeinjocimaaB10
import Derived.Test.YtmcnoeinjocimaaB1
import Derived.ProofKit
import Derived.Test.YtmcnoeinjocimaaProg
import Derived.Test.YtmcnoeinjocimaaB2
import Derived.Deep.RegionHeld3
import Derived.Lib.SliceRun
set_option linter.unusedVariables false
namespace Go.Proofs.Ytmcnoeinjocimaa.L
open Go.RowKit Go.ChangeShapes Go.WideShapes
structure Opens (P : Program) (t : TypeId) {α : Type} (r : Rp α) : Prop where
  cells : P.cellsOf t = r.sz
  out : ∀ {H : Type} (enc : TypeId × Value → H) (w : World) (fuel : Nat) (cs : List Value) (x : DataW H × List MemPlace),
    DataW.trod enc P w 0 (fun _ => true) true fuel t cs = some x → ∃ y, r.K w (fun _ => True) y cs
structure OpensFs (P : Program) (fs : List Field) (off : Nat) {α : Type} (r : Rp α) : Prop where
  out : ∀ {H : Type} (enc : TypeId × Value → H) (w : World) (n : Nat) (cs : List Value), off + r.sz ≤ cs.length →
    (∀ (i : Nat) (f : Field), fs[i]? = some f → ∃ x, DataW.trod enc P w 0 (fun _ => true) true n f.type ((cs.drop f.offset).take (P.cellsOf f.type)) = some x) → ∃ y, r.K w (fun _ => True) y ((cs.drop off).take r.sz)
namespace Opens
variable {P : Program} {t : TypeId}
theorem int (ht : P.underlying t = some (.int .i64)) (hc : P.cellsOf t = 1) : Opens P t Rp.int := ⟨hc, fun enc w fuel cs x h => by
  obtain ⟨n, rfl, _⟩ := DataW.trod_int ht h
  exact ⟨n, rfl⟩⟩
theorem bool (ht : P.underlying t = some .bool) (hc : P.cellsOf t = 1) : Opens P t Rp.bool := ⟨hc, fun enc w fuel cs x h => by
  obtain ⟨n, rfl, _⟩ := DataW.trod_bool ht h
  exact ⟨n, rfl⟩⟩
theorem str (ht : P.underlying t = some .string) (hc : P.cellsOf t = 1) : Opens P t Rp.str := ⟨hc, fun enc w fuel cs x h => by
  obtain ⟨n, rfl, _⟩ := DataW.trod_string ht h
  exact ⟨n, rfl⟩⟩
theorem mapM_get {β γ : Type} {f : β → Option γ} : ∀ {l : List β} {ys : List γ}, l.mapM f = some ys → ∀ (i : Nat) (b : β), l[i]? = some b → ∃ y, ys[i]? = some y ∧ f b = some y
  | [], ys, h, i, b, hb => by simp at hb
  | a :: l, ys, h, i, b, hb => by
    rw [List.mapM_cons] at h
    cases ha : f a with
    | none => rw [ha] at h; cases h
    | some y =>
      rw [ha] at h
      cases hl : l.mapM f with
      | none => rw [hl] at h; cases h
      | some zs =>
        rw [hl] at h
        cases h
        cases i with
        | zero => cases hb; exact ⟨y, rfl, ha⟩
        | succ i => exact mapM_get hl i b hb
theorem cells_get {w : World} {a : Addr} {n : Nat} {cs : List Value} (h : w.cells? 0 a n = some cs) : cs.length = n ∧ ∀ j u, cs[j]? = some u → w.cell? (a.add j) = some u := by
  unfold World.cells? at h
  rw [if_pos (Nat.zero_le _)] at h
  have hl : ∀ {l : List Nat} {ys : List Value}, l.mapM (fun i => w.cell? (a.add i)) = some ys → ys.length = l.length := by
    intro l
    induction l with
    | nil => intro ys h; cases h; rfl
    | cons b l ih =>
      intro ys h
      rw [List.mapM_cons] at h
      cases hb : w.cell? (a.add b) with
      | none => rw [hb] at h; cases h
      | some y =>
        rw [hb] at h
        cases hl : l.mapM (fun i => w.cell? (a.add i)) with
        | none => rw [hl] at h; cases h
        | some zs => rw [hl] at h; cases h; simp [ih hl]
  have hlen := hl h
  rw [List.length_range] at hlen
  refine ⟨hlen, fun j u hu => ?_⟩
  have hj : j < n := by rw [← hlen]; exact (List.getElem?_eq_some_iff.1 hu).1
  obtain ⟨y, hy, hc⟩ := mapM_get h j j (by rw [List.getElem?_range hj])
  rw [hu] at hy
  cases hy
  exact hc
theorem plain_of_cell {w : World} {a : Addr} {u : Value} (h : w.cell? a = some u) : a = ⟨a.block, a.off, none⟩ ∧ a.block < w.heap.size := by
  obtain ⟨b, o, s⟩ := a
  unfold World.cell? at h
  split at h
  · rename_i c t fr hb
    cases s with
    | none => exact ⟨rfl, (Array.getElem?_eq_some_iff.1 hb).1⟩
    | some s => simp at h
  · cases h
theorem slice {e : TypeId} {α : Type} {r : Rp α} (h : Opens P e r) (ht : P.underlying t = some (.slice e)) (hc : P.cellsOf t = 1) (h0 : 0 < r.sz) : Opens P t (Rp.sl r) := ⟨hc, fun enc w fuel cs x hx => by
  rcases Deep.open_slice ht hx with ⟨rfl, _⟩ | ⟨a, len, cap, m, n, D, Pl, rfl, _, hl, hm, hmm, _, hel⟩
  · exact ⟨[], _, rfl, Rp.Rd.nil r w _⟩
  · simp only [if_true] at hmm
    have each : ∀ i, i < len → ∃ y cs', r.K w (fun _ => True) y cs' ∧ (∀ j u, cs'[j]? = some u → w.cell? ((a.add (i * r.sz)).add j) = some u) ∧ cs'.length = r.sz := by
      intro i hi
      obtain ⟨cs', h1, h2⟩ := hel i (by omega)
      rw [h.cells] at h1
      obtain ⟨y, hy⟩ := h.out enc w n cs' _ h2
      obtain ⟨hlen, hcell⟩ := cells_get h1
      exact ⟨y, cs', hy, hcell, hlen⟩
    by_cases hz : len = 0
    · subst hz
      exact ⟨[], _, rfl, some a, cap, rfl, by simp, hm, .inl rfl⟩
    · have ha : a = ⟨a.block, a.off, none⟩ ∧ a.block < w.heap.size := by
        obtain ⟨y, cs', _, hcell, hlen⟩ := each 0 (by omega)
        have hj : cs'[0]? = some (cs'[0]'(by omega)) := List.getElem?_eq_getElem (by omega)
        have := hcell 0 _ hj
        rw [Nat.zero_mul] at this
        have e0 : ((a.add 0).add 0) = a := by simp [Addr.add]
        rw [e0] at this
        exact plain_of_cell this
      obtain ⟨b, o, s⟩ := a
      simp only [Addr.mk.injEq, true_and] at ha
      obtain ⟨rfl, hb⟩ := ha
      let g : Nat → α := fun i => if hi : i < len then (each i hi).choose else (each 0 (by omega)).choose
      refine ⟨(List.range len).map g, _, rfl, some ⟨b, o, none⟩, cap, by simp, by simpa using hl, hm, .inr ⟨b, o, rfl, trivial, hb, fun i y hy => ?_⟩⟩
      rw [List.getElem?_map] at hy
      obtain ⟨i', hi', rfl⟩ := Option.map_eq_some_iff.1 hy
      have hlt : i < len := by
        rcases Nat.lt_or_ge i len with hh | hh
        · exact hh
        · rw [List.getElem?_eq_none (by simpa using hh)] at hi'; cases hi'
      rw [List.getElem?_range hlt] at hi'
      cases hi'
      obtain ⟨cs', hK, hcell, hlen⟩ := (each i hlt).choose_spec
      refine ⟨cs', ?_, fun j u hu => ?_⟩
      · show r.K w _ (g i) cs'
        have : g i = (each i hlt).choose := dif_pos hlt
        rw [this]; exact hK
      · have := hcell j u hu
        rw [Addr.add_lit, Addr.add_lit, Nat.add_assoc] at this
        exact this⟩
theorem last {f : Field} {off : Nat} {α : Type} {r : Rp α} (h : Opens P f.type r) (ho : f.offset = off) : OpensFs P [f] off r := ⟨fun enc w n cs hl hx => by
  obtain ⟨x, hx⟩ := hx 0 f rfl
  rw [h.cells, ho] at hx
  exact h.out enc w n _ x hx⟩
theorem cons {f : Field} {fs : List Field} {off : Nat} {α β : Type} {a : Rp α} {b : Rp β} (h : Opens P f.type a) (ho : f.offset = off) (hs : OpensFs P fs (off + a.sz) b) : OpensFs P (f :: fs) off (a.pair b) := ⟨fun enc w n cs hl hx => by
  have hl' : off + (a.sz + b.sz) ≤ cs.length := hl
  obtain ⟨x, h0⟩ := hx 0 f rfl
  rw [h.cells, ho] at h0
  obtain ⟨y, hy⟩ := h.out enc w n _ x h0
  obtain ⟨z, hz⟩ := hs.out enc w n cs (by omega) (fun i g hg => hx (i + 1) g hg)
  refine ⟨(y, z), _, _, ?_, hy, hz⟩
  show (cs.drop off).take (a.sz + b.sz) = _
  rw [List.take_add, List.drop_drop]⟩
theorem struct {fs : Array Field} {α β : Type} {r : Rp α} (hs : OpensFs P fs.toList 0 r) (ht : P.underlying t = some (.struct fs)) (hc : P.cellsOf t = r.sz) (f : β → α) (g : α → β) (hg : ∀ y, f (g y) = y) : Opens P t (r.iso f) := ⟨hc, fun enc w fuel cs x hx => by
  obtain ⟨xs, n, rfl, _, hlen, hxs, hfs⟩ := DataW.trod_struct ht hx
  rw [hc] at hlen
  obtain ⟨y, hy⟩ := hs.out enc w n cs (by omega) (fun i q hq => by
    have hq' : fs[i]? = some q := by rw [← Array.getElem?_toList]; exact hq
    have hi : i < xs.length := by rw [hxs]; exact (Array.getElem?_eq_some_iff.1 hq').1
    exact ⟨xs[i], by rw [hfs i q hq', List.getElem?_eq_getElem hi]⟩)
  refine ⟨g y, ?_⟩
  show r.K w _ (f (g y)) cs
  rw [hg, show cs = (cs.drop 0).take r.sz by rw [List.drop_zero, List.take_of_length_le (by omega)]]
  exact hy⟩
end Opens
end Go.Proofs.Ytmcnoeinjocimaa.L

set_option linter.unusedVariables false
namespace Go.Proofs.Ytmcnoeinjocimaa.L
open Go.RowKit
theorem opensInt : Opens Try.prog 3 Rp.int := Opens.int Try.underlying3 (by kernel_rfl)
theorem opensInts : Opens Try.prog 35 (Rp.sl Rp.int) := Opens.slice opensInt Try.underlying35 (by kernel_rfl) (by decide)
theorem opensIntss : Opens Try.prog 41 (Rp.sl (Rp.sl Rp.int)) := Opens.slice opensInts Try.underlying41 (by kernel_rfl) (by decide)
theorem opensFlat : Opens Try.prog 143 flat :=
  Opens.struct (fs := _) (Opens.cons opensInt rfl (Opens.cons opensInt rfl (Opens.cons opensInt rfl (Opens.cons opensInt rfl (Opens.cons opensInt rfl (Opens.last opensInt rfl)))))) Try.underlying143 (by kernel_rfl) Fl.t (fun p => ⟨p.1, p.2.1, p.2.2.1, p.2.2.2.1, p.2.2.2.2.1, p.2.2.2.2.2⟩) (fun _ => rfl)
theorem opensFlats : Opens Try.prog 95 (Rp.sl flat) := Opens.slice opensFlat Try.underlying95 (by kernel_rfl) (by decide)
theorem opensPart : Opens Try.prog 97 part :=
  Opens.struct (fs := _) (Opens.cons opensInts rfl (Opens.cons opensFlats rfl (Opens.cons opensInt rfl (Opens.cons opensInt rfl (Opens.cons opensInts rfl (Opens.last opensIntss rfl)))))) Try.underlying97 (by kernel_rfl) Pt.t (fun p => ⟨p.1, p.2.1, p.2.2.1, p.2.2.2.1, p.2.2.2.2.1, p.2.2.2.2.2⟩) (fun _ => rfl)
theorem opensParts : Opens Try.prog 22 (Rp.sl part) := Opens.slice opensPart Try.underlying22 (by kernel_rfl) (by decide)
theorem opensSsa : Opens Try.prog 24 ssa :=
  Opens.struct (fs := _) (Opens.cons opensParts rfl (Opens.last opensInt rfl)) Try.underlying24 (by kernel_rfl) Sa.t (fun p => ⟨p.1, p.2⟩) (fun _ => rfl)
end Go.Proofs.Ytmcnoeinjocimaa.L

set_option linter.unusedVariables false
set_option linter.unusedSimpArgs false
namespace Go.Proofs.Ytmcnoeinjocimaa.L
open Go.RowKit
theorem GoodP.static {s : Sa} (h : GoodP s) {p : Pt} (hp : p ∈ s.parts) : staticI s p = true := (static_iff h.v1).2 ⟨h.nx p hp, h.pt p hp⟩
theorem static_args {s : Sa} {p : Pt} (h : staticI s p = true) : p.next.length ≤ p.args.length := by
  unfold staticI at h
  simp only [Bool.and_eq_true] at h
  obtain ⟨⟨⟨hc, hg⟩, h0⟩, ha⟩ := h
  unfold argsS at ha
  split at ha
  · rename_i h3
    unfold goB at hg
    simp only [Bool.and_eq_true] at hg
    have hg := hg.2
    rw [beq_iff_eq] at h3
    rw [h3] at hg
    have h0 : p.next.length = 0 := by simpa using hg
    omega
  · rw [fitS_len _ _ _ ha]; exact Nat.le_refl _
def edgesN (l : List Pt) (k : Int) : Nat := (l.map (fun p : Pt => p.next.count k)).sum
theorem edgesN_take {l : List Pt} {j : Nat} (hj : j < l.length) (k : Int) : edgesN (l.take (j + 1)) k = edgesN (l.take j) k + l[j].next.count k := by
  unfold edgesN
  rw [List.take_succ_eq_append_getElem hj, List.map_append, List.sum_append]; simp
theorem count_take {l : List Int} {j : Nat} (hj : j < l.length) (k : Int) : (l.take (j + 1)).count k = (l.take j).count k + (if l[j] = k then 1 else 0) := by
  rw [List.take_succ_eq_append_getElem hj, List.count_append, List.count_singleton]
  by_cases h : l[j] = k <;> simp [h]
theorem edgesN_le {l : List Pt} {k : Int} (h : ∀ p ∈ l, p.next.length ≤ 1048576) : edgesN l k ≤ l.length * 1048576 := by
  induction l with
  | nil => simp [edgesN]
  | cons p t ih =>
    have h1 := ih (fun q hq => h q (List.mem_cons_of_mem _ hq))
    have h2 := h p List.mem_cons_self
    have h3 := List.count_le_length (a := k) (l := p.next)
    unfold edgesN at h1 ⊢
    simp only [List.map_cons, List.sum_cons, List.length_cons, Nat.succ_mul]
    omega
/-- An edge is critical and has Args. -/
def critB (l : List Pt) (p : Pt) (i : Nat) : Bool := decide (1 < p.next.length) && decide (1 < edgesN l (p.next.getD i 0)) && decide (0 < (p.args.getD i []).length)
def splitB (s : Sa) : Bool := s.parts.all (fun p => (List.range p.next.length).all (fun i => !critB s.parts p i))
end Go.Proofs.Ytmcnoeinjocimaa.L

set_option linter.unusedVariables false
set_option linter.unusedSimpArgs false
namespace Go.Proofs.Ytmcnoeinjocimaa.L
open Go.RowKit
/-- A value is needed ahead of a part. -/
inductive LvI (s : Sa) : Nat → Int → Prop
  | own {k : Nat} {p : Pt} {v : Int} (hp : s.parts[k]? = some p) (h : v ∈ endsS p ∨ v ∈ p.code.flatMap usesS) (hn : v ∉ ownS p) : LvI s k v
  | flow {k : Nat} {p : Pt} {x v : Int} (hp : s.parts[k]? = some p) (hx : x ∈ p.next) (h : LvI s x.toNat v) (hn : v ∉ ownS p) : LvI s k v
/-- A value is needed behind a part, given what is needed ahead of each. -/
def BhP (I : Nat → Int → Prop) (p : Pt) (v : Int) : Prop := v ∈ endsS p ∨ ∃ x ∈ p.next, I x.toNat v
def LvO (s : Sa) (k : Nat) (v : Int) : Prop := ∃ p, s.parts[k]? = some p ∧ BhP (LvI s) p v
/-- .. and ahead of it. -/
def AhP (I : Nat → Int → Prop) (p : Pt) (v : Int) : Prop := (BhP I p v ∨ v ∈ p.code.flatMap usesS) ∧ v ∉ ownS p
theorem LvI.ah {s : Sa} {k : Nat} {v : Int} (h : LvI s k v) : ∃ p, s.parts[k]? = some p ∧ AhP (LvI s) p v := by
  cases h with
  | own hp h hn => exact ⟨_, hp, by rcases h with h | h; exact .inl (.inl h); exact .inr h, hn⟩
  | flow hp hx h hn => exact ⟨_, hp, .inl (.inr ⟨_, hx, h⟩), hn⟩
theorem LvI.of_ah {s : Sa} {k : Nat} {p : Pt} {v : Int} (hp : s.parts[k]? = some p) (h : AhP (LvI s) p v) : LvI s k v := by
  obtain ⟨(h | ⟨x, hx, h⟩) | h, hn⟩ := h
  · exact .own hp (.inl h) hn
  · exact .flow hp hx h hn
  · exact .own hp (.inr h) hn
theorem BhP.mono {I J : Nat → Int → Prop} {p : Pt} {v : Int} (h : BhP I p v) (hIJ : ∀ k v, I k v → J k v) : BhP J p v := by
  rcases h with h | ⟨x, hx, h⟩
  · exact .inl h
  · exact .inr ⟨x, hx, hIJ _ _ h⟩
theorem AhP.mono {I J : Nat → Int → Prop} {p : Pt} {v : Int} (h : AhP I p v) (hIJ : ∀ k v, I k v → J k v) : AhP J p v :=
  ⟨h.1.imp (fun h => h.mono hIJ) id, h.2⟩
/-- What holds no more than is needed, and all that its own rules ask, is what is needed. -/
theorem LvI.least {s : Sa} {I : Nat → Int → Prop} (hc : ∀ (k : Nat) (p : Pt), s.parts[k]? = some p → ∀ v, AhP I p v → I k v) : ∀ {k v}, LvI s k v → I k v := by
  intro k v h
  induction h with
  | own hp h hn => exact hc _ _ hp _ ⟨by rcases h with h | h; exact .inl (.inl h); exact .inr h, hn⟩
  | flow hp hx h hn ih => exact hc _ _ hp _ ⟨.inl (.inr ⟨_, hx, ih⟩), hn⟩
/-- Lists that grow. -/
def Inc (l : List Int) : Prop := l.Pairwise (· < ·)
theorem Inc.nil : Inc [] := List.Pairwise.nil
theorem Inc.putL {l : List Int} (h : Inc l) (n : Int) : Inc (putL l n) := by
  induction l with
  | nil => exact List.pairwise_singleton _ _
  | cons x t ih =>
    obtain ⟨h1, h2⟩ := List.pairwise_cons.1 h
    simp only [L.putL]
    split
    · refine List.pairwise_cons.2 ⟨fun y hy => ?_, ih h2⟩
      rcases (mem_putL t n y).1 hy with rfl | hy
      · assumption
      · exact h1 y hy
    · split
      · exact h
      · refine List.pairwise_cons.2 ⟨fun y hy => ?_, h⟩
        rcases List.mem_cons.1 hy with rfl | hy
        · omega
        · have := h1 y hy; omega
theorem Inc.foldl {l : List Int} : ∀ {m : List Int}, Inc m → Inc (l.foldl L.putL m) := by
  induction l with
  | nil => intro m h; exact h
  | cons x t ih => intro m h; exact ih (h.putL x)
theorem mem_foldl_putL {l : List Int} : ∀ {m : List Int} {v : Int}, v ∈ l.foldl putL m ↔ v ∈ l ∨ v ∈ m := by
  induction l with
  | nil => intro m v; simp
  | cons x t ih =>
    intro m v
    rw [List.foldl_cons, ih, mem_putL, List.mem_cons]
    constructor
    · rintro (h | h | h); exact .inl (.inr h); exact .inl (.inl h); exact .inr h
    · rintro ((h | h) | h); exact .inr (.inl h); exact .inl h; exact .inr (.inr h)
theorem Inc.filter {l : List Int} (h : Inc l) (f : Int → Bool) : Inc (l.filter f) := List.Pairwise.filter f h
theorem Inc.ext {l m : List Int} (hl : Inc l) (hm : Inc m) (h : ∀ v, v ∈ l ↔ v ∈ m) : l = m := by
  induction l generalizing m with
  | nil => cases m with
    | nil => rfl
    | cons y t => exact absurd ((h y).2 List.mem_cons_self) (by simp)
  | cons x t ih =>
    cases m with
    | nil => exact absurd ((h x).1 List.mem_cons_self) (by simp)
    | cons y u =>
      obtain ⟨a1, a2⟩ := List.pairwise_cons.1 hl
      obtain ⟨b1, b2⟩ := List.pairwise_cons.1 hm
      have hxy : x = y := by
        rcases List.mem_cons.1 ((h x).1 List.mem_cons_self) with e | e
        · exact e
        · rcases List.mem_cons.1 ((h y).2 List.mem_cons_self) with e2 | e2
          · exact e2.symm
          · have := b1 x e; have := a1 y e2; omega
      subst hxy
      congr 1
      refine ih a2 b2 fun v => ⟨fun hv => ?_, fun hv => ?_⟩
      · rcases List.mem_cons.1 ((h v).1 (List.mem_cons_of_mem _ hv)) with e | e
        · subst e; exact absurd (a1 v hv) (by omega)
        · exact e
      · rcases List.mem_cons.1 ((h v).2 (List.mem_cons_of_mem _ hv)) with e | e
        · subst e; exact absurd (b1 v hv) (by omega)
        · exact e
/-- A list that grows, of values below a bound. -/
theorem Inc.length_le {l : List Int} (h : Inc l) {V : Int} (hV : 0 ≤ V) (h0 : ∀ v ∈ l, 0 ≤ v ∧ v < V) : (l.length : Int) ≤ V := by
  have key : ∀ (l : List Int) (a : Int), Inc l → (∀ v ∈ l, a ≤ v ∧ v < V) → a ≤ V → a + l.length ≤ V := by
    intro l
    induction l with
    | nil => intro a _ _ h; simpa using h
    | cons x t ih =>
      intro a hi hr ha
      obtain ⟨h1, h2⟩ := List.pairwise_cons.1 hi
      have hx := hr x List.mem_cons_self
      have := ih (x + 1) h2 (fun v hv => ⟨by have := h1 v hv; omega, (hr v (List.mem_cons_of_mem _ hv)).2⟩) (by omega)
      rw [List.length_cons]; omega
  have := key l 0 h (fun v hv => h0 v hv) hV
  omega
theorem Inc.sub_eq {l m : List Int} (hl : Inc l) (hm : Inc m) (h : ∀ v ∈ l, v ∈ m) (hn : m.length ≤ l.length) : l = m := by
  induction l generalizing m with
  | nil => cases m with
    | nil => rfl
    | cons y t => simp at hn
  | cons x t ih =>
    cases m with
    | nil => exact absurd (h x List.mem_cons_self) (by simp)
    | cons y u =>
      obtain ⟨a1, a2⟩ := List.pairwise_cons.1 hl
      obtain ⟨b1, b2⟩ := List.pairwise_cons.1 hm
      simp only [List.length_cons] at hn
      have ht : ∀ v ∈ t, v ∈ u := fun v hv => by
        rcases List.mem_cons.1 (h v (List.mem_cons_of_mem _ hv)) with e | e
        · rcases List.mem_cons.1 (h x List.mem_cons_self) with e2 | e2
          · have := a1 v hv; omega
          · have := a1 v hv; have := b1 x e2; omega
        · exact e
      have htu := ih a2 b2 ht (by omega)
      subst htu
      rcases List.mem_cons.1 (h x List.mem_cons_self) with e | e
      · rw [e]
      · exact absurd (a1 x e) (by omega)
open Classical in
/-- A set as a list. -/
noncomputable def listP (P : Int → Prop) (V : Nat) : List Int := ((List.range V).map (fun n : Nat => (n : Int))).filter (fun v => decide (P v))
theorem listP_inc (P : Int → Prop) (V : Nat) : Inc (listP P V) := by
  unfold listP
  refine Inc.filter ?_ _
  unfold Inc
  rw [List.pairwise_map]
  exact List.pairwise_lt_range.imp (fun h => by omega)
theorem mem_listP {P : Int → Prop} {V : Nat} {v : Int} : v ∈ listP P V ↔ (0 ≤ v ∧ v < V) ∧ P v := by
  unfold listP
  rw [List.mem_filter, List.mem_map]
  constructor
  · rintro ⟨⟨n, hn, rfl⟩, h2⟩
    exact ⟨⟨by omega, by have := List.mem_range.1 hn; omega⟩, by simpa using h2⟩
  · rintro ⟨⟨h1, h2⟩, h3⟩
    exact ⟨⟨v.toNat, List.mem_range.2 (by omega), by omega⟩, by simpa using h3⟩
end Go.Proofs.Ytmcnoeinjocimaa.L

set_option linter.unusedVariables false
set_option linter.unusedSimpArgs false
namespace Go.Proofs.Ytmcnoeinjocimaa.L
open Go.RowKit
theorem defs_eq {s : Sa} {D T : List Int} {M : List (List Bool)} (h : GoodV s D T M) : (defsS s).getD [] = List.replicate 12 0 ++ D.drop 12 ∧ (D.length : Int) = s.values := by
  obtain ⟨h1, h2, S, h3, h4⟩ := (sim_parts h.v1 s.parts 0 _ _ (List.replicate s.values.toNat 0) (by omega) (rel0 h.v1)).1 D T h.ps
  have hd : defsS s = some S := h3
  have hv := h.v1
  have hl1 := h4.l1
  have hl2 := h4.l2
  rw [hd]
  refine ⟨?_, hl2⟩
  show S = _
  apply List.ext_getElem
  · rw [List.length_append, List.length_replicate, List.length_drop]; omega
  intro i a b
  have e : S[i] = S.getD i 0 := by rw [List.getD_eq_getElem?_getD, List.getElem?_eq_getElem a]; rfl
  rw [e]
  by_cases hi : i < 12
  · rw [h4.lo i hi, List.getElem_append_left (by rw [List.length_replicate]; exact hi), List.getElem_replicate]
  · rw [h4.hi i (by omega), List.getElem_append_right (by rw [List.length_replicate]; omega), List.getElem_drop, List.getD_eq_getElem?_getD]
    simp only [List.length_replicate]
    have hi2 : 12 + (i - 12) = i := by omega
    rw [List.getElem?_eq_getElem (show i < D.length by omega)]
    simp only [hi2, Option.getD_some]
end Go.Proofs.Ytmcnoeinjocimaa.L

set_option linter.unusedVariables false
set_option linter.unusedSimpArgs false
namespace Go.Proofs.Ytmcnoeinjocimaa.L
open Go.RowKit
theorem GoodP.rel {s : Sa} (h : GoodP s) : ∃ D T S, defsS s = some S ∧ Rel s.values S D ∧ partsI s 0 s.parts (List.replicate s.values.toNat (-1)) (List.replicate s.values.toNat 0) = some (D, T) := by
  obtain ⟨D, T, M, hg⟩ := (good_iff s).2 h
  obtain ⟨h1, h2, S, h3, h4⟩ := (sim_parts hg.v1 s.parts 0 _ _ (List.replicate s.values.toNat 0) (by omega) (rel0 hg.v1)).1 D T hg.ps
  exact ⟨D, T, S, h3, h4, hg.ps⟩
theorem GoodP.own_def {s : Sa} (h : GoodP s) {q : Nat} {p : Pt} (hq : s.parts[q]? = some p) {v : Int} (hv : v ∈ ownS p) : 12 ≤ v ∧ v < s.values ∧ ((defsS s).getD [])[v.toNat]! = q := by
  obtain ⟨D, T, S, h1, h2, h3⟩ := h.rel
  have hV := h.v1
  have hl1 : ((List.replicate s.values.toNat (-1 : Int)).length : Int) = s.values := by rw [List.length_replicate]; omega
  have hl2 : ((List.replicate s.values.toNat (0 : Int)).length : Int) = s.values := by rw [List.length_replicate]; omega
  obtain ⟨-, -, a3, -⟩ := partsI_spec s.parts 0 _ _ D T (by omega) hl1 hl2 h3
  rw [← items_fst] at hv
  obtain ⟨x, hx, rfl⟩ := List.mem_map.1 hv
  obtain ⟨b1, b2, b3, _⟩ := a3 q p hq x hx
  refine ⟨b1, b2, ?_⟩
  have hS := h2.l1
  rw [h1]
  show S[x.1.toNat]! = _
  rw [getD_bang S _ (by omega), h2.hi _ (by omega), b3]
  omega
theorem GoodP.defs_len {s : Sa} (h : GoodP s) : (((defsS s).getD []).length : Int) = s.values := by
  obtain ⟨D, T, S, h1, h2, h3⟩ := h.rel
  rw [h1]; exact h2.l1
theorem GoodP.use_far {s : Sa} (h : GoodP s) {q : Nat} {p : Pt} (hq : s.parts[q]? = some p) {j : Nat} {x : Fl} (hx : p.code[j]? = some x) {v : Int} (hv : v ∈ usesS x) (ho : v ∈ ownS p) : v ∈ p.params ++ dstsS (p.code.take j) := by
  obtain ⟨h1, h2, h3⟩ := h.own_def hq ho
  obtain ⟨_, _, ht⟩ := (h.us q p hq).code j x hx v hv
  rcases ht with ht | ht | ⟨_, ht, _⟩
  · omega
  · exact ht
  · exact absurd h3 ht
theorem GoodP.use_in {s : Sa} (h : GoodP s) {q : Nat} {p : Pt} (hq : s.parts[q]? = some p) {v : Int} (hv : v ∈ endsS p ∨ v ∈ p.code.flatMap usesS) : 0 ≤ v ∧ v < s.values := by
  have hl := h.defs_len
  rcases hv with hv | hv
  · obtain ⟨a, b, _⟩ := (h.us q p hq).ends v hv
    exact ⟨a, by omega⟩
  · obtain ⟨x, hx, hv⟩ := List.mem_flatMap.1 hv
    obtain ⟨j, hj⟩ := List.getElem?_of_mem hx
    obtain ⟨a, b, _⟩ := (h.us q p hq).code j x hj v hv
    exact ⟨a, by omega⟩
theorem LvI.range {s : Sa} (h : GoodP s) {k : Nat} {v : Int} (hv : LvI s k v) : 0 ≤ v ∧ v < s.values := by
  induction hv with
  | own hp h1 hn => exact h.use_in hp h1
  | flow hp hx _ hn ih => exact ih
theorem GoodP.uses_eq {s : Sa} (h : GoodP s) {p : Pt} (hp : p ∈ s.parts) {x : Fl} (hx : x ∈ p.code) : usesI x = usesS x :=
  L.uses_eq (flat_op (static_flat (h.static hp) x hx))
/-- A value is needed ahead of steps, of those needed behind them. -/
def LC (O : Int → Prop) : List Fl → Int → Prop
  | [], v => O v
  | x :: t, v => v ∈ usesI x ∨ (¬ (setsS x = true ∧ v = x.dst) ∧ LC O t v)
theorem LC.of_not {O : Int → Prop} {v : Int} : ∀ {l : List Fl}, v ∉ dstsS l → (O v ∨ ∃ x ∈ l, v ∈ usesI x) → LC O l v
  | [], _, h => by rcases h with h | ⟨x, hx, _⟩; exact h; simp at hx
  | x :: t, hn, h => by
    have hn1 : ¬ (setsS x = true ∧ v = x.dst) := fun ⟨a, b⟩ => hn (by unfold dstsS; rw [List.filter_cons, if_pos a, List.map_cons, b]; exact List.mem_cons_self)
    have hn2 : v ∉ dstsS t := fun a => hn (by unfold dstsS at a ⊢; rw [List.filter_cons]; split; exact List.mem_cons_of_mem _ a; exact a)
    by_cases hx : v ∈ usesI x
    · exact .inl hx
    · refine .inr ⟨hn1, LC.of_not hn2 ?_⟩
      rcases h with h | ⟨y, hy, h⟩
      · exact .inl h
      · rcases List.mem_cons.1 hy with rfl | hy
        · exact absurd h hx
        · exact .inr ⟨y, hy, h⟩
theorem LC.to {s : Sa} (h : GoodP s) {q : Nat} {p : Pt} (hq : s.parts[q]? = some p) {O : Int → Prop} {v : Int} : ∀ (n i : Nat), n = p.code.length - i → i ≤ p.code.length → v ∉ p.params ++ dstsS (p.code.take i) → LC O (p.code.drop i) v →
    (O v ∨ v ∈ p.code.flatMap usesS) ∧ v ∉ ownS p
  | 0, i, hn, hi, h1, h2 => by
    obtain rfl : i = p.code.length := by omega
    rw [List.take_length] at h1
    rw [List.drop_length] at h2
    exact ⟨.inl h2, h1⟩
  | n + 1, i, hn, hi, h1, h2 => by
    have hlt : i < p.code.length := by omega
    rw [List.drop_eq_getElem_cons hlt] at h2
    have hmem := List.getElem_mem hlt
    rcases h2 with h2 | ⟨h3, h2⟩
    · rw [h.uses_eq (List.mem_of_getElem? hq) hmem] at h2
      exact ⟨.inr (List.mem_flatMap.2 ⟨_, hmem, h2⟩), fun ho => h1 (h.use_far hq (List.getElem?_eq_getElem hlt) h2 ho)⟩
    · refine LC.to h hq n (i + 1) (by omega) (by omega) (fun hm => ?_) h2
      rw [dstsS_take hlt] at hm
      split at hm
      · rename_i hs
        rcases List.mem_append.1 hm with hm | hm
        · exact h1 (List.mem_append.2 (.inl hm))
        · rcases List.mem_append.1 hm with hm | hm
          · exact h1 (List.mem_append.2 (.inr hm))
          · exact h3 ⟨hs, List.mem_singleton.1 hm⟩
      · exact h1 hm
theorem LC_iff {s : Sa} (h : GoodP s) {q : Nat} {p : Pt} (hq : s.parts[q]? = some p) {O : Int → Prop} {v : Int} : (LC O p.code v ∧ v ∉ p.params) ↔ ((O v ∨ v ∈ p.code.flatMap usesS) ∧ v ∉ ownS p) := by
  constructor
  · rintro ⟨h1, h2⟩
    exact LC.to h hq (p.code.length - 0) 0 rfl (Nat.zero_le _) (by rw [List.take_zero]; show v ∉ p.params ++ []; rw [List.append_nil]; exact h2) h1
  · rintro ⟨h1, h2⟩
    have hn : ¬ (v ∈ p.params ∨ v ∈ dstsS p.code) := fun h => h2 (List.mem_append.2 h)
    refine ⟨LC.of_not (fun hv => hn (.inr hv)) (h1.imp id fun hv => ?_), fun hv => hn (.inl hv)⟩
    obtain ⟨x, hx, hv⟩ := List.mem_flatMap.1 hv
    exact ⟨x, hx, by rw [h.uses_eq (List.mem_of_getElem? hq) hx]; exact hv⟩
/-- A set as the program keeps it. -/
def addB (S : List Bool) (l : List Int) : List Bool := l.foldl (fun S v => S.set v.toNat true) S
def delB (S : List Bool) (l : List Int) : List Bool := l.foldl (fun S v => S.set v.toNat false) S
def stepB (S : List Bool) (x : Fl) : List Bool := addB (if setsS x then S.set x.dst.toNat false else S) (usesI x)
def liveC (l : List Fl) (S : List Bool) : List Bool := l.foldr (fun x S => stepB S x) S
def liveB (p : Pt) (S : List Bool) : List Bool := delB (liveC p.code S) p.params
def InB (S : List Bool) (v : Int) : Prop := 0 ≤ v ∧ S.getD v.toNat false = true
theorem addB_len (S : List Bool) (l : List Int) : (addB S l).length = S.length := by
  unfold addB
  induction l generalizing S with
  | nil => rfl
  | cons x t ih => rw [List.foldl_cons, ih, List.length_set]
theorem delB_len (S : List Bool) (l : List Int) : (delB S l).length = S.length := by
  unfold delB
  induction l generalizing S with
  | nil => rfl
  | cons x t ih => rw [List.foldl_cons, ih, List.length_set]
theorem stepB_len (S : List Bool) (x : Fl) : (stepB S x).length = S.length := by
  unfold stepB; rw [addB_len]; split <;> simp
theorem liveC_len (l : List Fl) (S : List Bool) : (liveC l S).length = S.length := by
  induction l with
  | nil => rfl
  | cons x t ih => show (stepB (liveC t S) x).length = _; rw [stepB_len, ih]
theorem liveB_len (p : Pt) (S : List Bool) : (liveB p S).length = S.length := by unfold liveB; rw [delB_len, liveC_len]
theorem getD_setB (S : List Bool) (m n : Nat) (b : Bool) (hm : m < S.length) : (S.set m b).getD n false = if n = m then b else S.getD n false := by
  rw [List.getD_eq_getElem?_getD, List.getD_eq_getElem?_getD, List.getElem?_set]
  by_cases h : m = n
  · subst h; simp [hm]
  · rw [if_neg h, if_neg (fun e => h e.symm)]
theorem InB_set {S : List Bool} {m v : Int} {b : Bool} (h0 : 0 ≤ m) (hm : m < S.length) : InB (S.set m.toNat b) v ↔ (if v = m then b = true else InB S v) := by
  unfold InB
  rw [getD_setB _ _ _ _ (by omega)]
  by_cases h : v = m
  · subst h; simp [h0]
  · rw [if_neg h]
    by_cases hv : 0 ≤ v
    · rw [if_neg (by omega)]
    · simp [hv]
theorem InB_add {l : List Int} : ∀ {S : List Bool} {v : Int}, (∀ m ∈ l, 0 ≤ m ∧ m < S.length) → (InB (addB S l) v ↔ v ∈ l ∨ InB S v) := by
  induction l with
  | nil => intro S v _; simp [addB]
  | cons m t ih =>
    intro S v h
    have hm := h m List.mem_cons_self
    show InB (addB (S.set m.toNat true) t) v ↔ _
    rw [ih (fun q hq => by rw [List.length_set]; exact h q (List.mem_cons_of_mem _ hq)), InB_set hm.1 hm.2, List.mem_cons]
    by_cases e : v = m
    · subst e; simp
    · simp [e]
theorem InB_del {l : List Int} : ∀ {S : List Bool} {v : Int}, (∀ m ∈ l, 0 ≤ m ∧ m < S.length) → (InB (delB S l) v ↔ v ∉ l ∧ InB S v) := by
  induction l with
  | nil => intro S v _; simp [delB]
  | cons m t ih =>
    intro S v h
    have hm := h m List.mem_cons_self
    show InB (delB (S.set m.toNat false) t) v ↔ _
    rw [ih (fun q hq => by rw [List.length_set]; exact h q (List.mem_cons_of_mem _ hq)), InB_set hm.1 hm.2, List.mem_cons]
    by_cases e : v = m
    · subst e; simp
    · simp [e]
theorem InB_step {S : List Bool} {x : Fl} {v : Int} (hd : setsS x = true → 0 ≤ x.dst ∧ x.dst < S.length) (hu : ∀ m ∈ usesI x, 0 ≤ m ∧ m < S.length) : InB (stepB S x) v ↔ v ∈ usesI x ∨ (¬ (setsS x = true ∧ v = x.dst) ∧ InB S v) := by
  unfold stepB
  by_cases hs : setsS x = true
  · rw [if_pos hs, InB_add (by rw [List.length_set]; exact hu), InB_set (hd hs).1 (hd hs).2]
    by_cases e : v = x.dst <;> simp [e, hs]
  · rw [if_neg hs, InB_add hu]
    simp [hs]
theorem InB_code {S : List Bool} {v : Int} : ∀ {l : List Fl}, (∀ x ∈ l, (setsS x = true → 0 ≤ x.dst ∧ x.dst < S.length) ∧ ∀ m ∈ usesI x, 0 ≤ m ∧ m < S.length) → (InB (liveC l S) v ↔ LC (InB S) l v)
  | [], _ => Iff.rfl
  | x :: t, h => by
    have hx := h x List.mem_cons_self
    show InB (stepB (liveC t S) x) v ↔ _
    rw [InB_step (by rw [liveC_len]; exact hx.1) (by rw [liveC_len]; exact hx.2), InB_code (fun y hy => h y (List.mem_cons_of_mem _ hy))]
    exact Iff.rfl
theorem GoodP.steps_in {s : Sa} (h : GoodP s) {q : Nat} {p : Pt} (hq : s.parts[q]? = some p) {x : Fl} (hx : x ∈ p.code) : (setsS x = true → 12 ≤ x.dst ∧ x.dst < s.values) ∧ ∀ m ∈ usesI x, 0 ≤ m ∧ m < s.values := by
  refine ⟨fun hs => ?_, fun m hm => ?_⟩
  · obtain ⟨h1, h2, _⟩ := h.own_def hq (v := x.dst) (List.mem_append.2 (.inr (by unfold dstsS; exact List.mem_map.2 ⟨x, List.mem_filter.2 ⟨hx, hs⟩, rfl⟩)))
    exact ⟨h1, h2⟩
  · rw [h.uses_eq (List.mem_of_getElem? hq) hx] at hm
    exact h.use_in hq (.inr (List.mem_flatMap.2 ⟨x, hx, hm⟩))
theorem InB_live {s : Sa} (h : GoodP s) {q : Nat} {p : Pt} (hq : s.parts[q]? = some p) {S : List Bool} (hS : (S.length : Int) = s.values) {v : Int} : InB (liveB p S) v ↔ ((InB S v ∨ v ∈ p.code.flatMap usesS) ∧ v ∉ ownS p) := by
  unfold liveB
  rw [InB_del (fun m hm => by
      have := h.own_def hq (v := m) (List.mem_append.2 (.inl hm))
      rw [liveC_len]; omega), InB_code (fun x hx => by
      have := h.steps_in hq hx
      refine ⟨fun hs => ?_, fun m hm => ?_⟩
      · have := this.1 hs; omega
      · have := this.2 m hm; omega), and_comm]
  exact LC_iff h hq
end Go.Proofs.Ytmcnoeinjocimaa.L

set_option linter.unusedVariables false
set_option linter.unusedSimpArgs false
namespace Go.Proofs.Ytmcnoeinjocimaa.L
open Go.RowKit
/-- The numbers that are so, rising. -/
def listB (S : List Bool) : List Int := ((List.range S.length).map (fun n : Nat => (n : Int))).filter (fun v => S.getD v.toNat false)
theorem listB_inc (S : List Bool) : Inc (listB S) := by
  unfold listB
  refine Inc.filter ?_ _
  unfold Inc
  rw [List.pairwise_map]
  exact List.pairwise_lt_range.imp (fun h => by omega)
theorem mem_listB {S : List Bool} {v : Int} : v ∈ listB S ↔ InB S v := by
  unfold listB InB
  rw [List.mem_filter, List.mem_map]
  constructor
  · rintro ⟨⟨n, hn, rfl⟩, h2⟩
    exact ⟨by omega, h2⟩
  · rintro ⟨h1, h2⟩
    refine ⟨⟨v.toNat, List.mem_range.2 ?_, by omega⟩, h2⟩
    rcases Nat.lt_or_ge v.toNat S.length with h | h
    · exact h
    · rw [List.getD_eq_getElem?_getD, List.getElem?_eq_none h] at h2; cases h2
theorem listB_eq {S : List Bool} {P : Int → Prop} {V : Nat} (hl : S.length = V) (h : ∀ v, InB S v ↔ P v) : listB S = listP P V := by
  refine (listB_inc S).ext (listP_inc P V) fun v => ?_
  rw [mem_listB, mem_listP, ← h v]
  constructor
  · intro hv
    have hm := mem_listB.2 hv
    unfold listB at hm
    obtain ⟨n, hn, rfl⟩ := List.mem_map.1 (List.mem_filter.1 hm).1
    exact ⟨⟨by omega, by have := List.mem_range.1 hn; omega⟩, hv⟩
  · exact fun hv => hv.2
theorem InB_len {S : List Bool} {v : Int} (h : InB S v) : 0 ≤ v ∧ v < S.length := by
  have hm := mem_listB.2 h
  unfold listB at hm
  obtain ⟨n, hn, rfl⟩ := List.mem_map.1 (List.mem_filter.1 hm).1
  exact ⟨by omega, by have := List.mem_range.1 hn; omega⟩
/-- Sets of parts as sets. -/
def InR2 (I : List (List Bool)) (k : Nat) (v : Int) : Prop := InB (I.getD k []) v
def bhB (I : List (List Bool)) (p : Pt) (S : List Bool) : List Bool := addB S (endsS p ++ p.next.flatMap (fun x => listB (I.getD x.toNat [])))
theorem getD_set2 {α : Type} (S : List α) (m n : Nat) (b d : α) (hm : m < S.length) : (S.set m b).getD n d = if n = m then b else S.getD n d := by
  rw [List.getD_eq_getElem?_getD, List.getD_eq_getElem?_getD, List.getElem?_set]
  by_cases h : m = n
  · subst h; simp [hm]
  · rw [if_neg h, if_neg (fun e => h e.symm)]
/-- What holds between the rounds. -/
structure LInv (s : Sa) (I O : List (List Bool)) : Prop where
  li : I.length = s.parts.length
  lo : O.length = s.parts.length
  ri : ∀ S ∈ I, (S.length : Int) = s.values
  ro : ∀ S ∈ O, (S.length : Int) = s.values
  si : ∀ k v, InR2 I k v → LvI s k v
  so : ∀ k v, InR2 O k v → LvO s k v
  up : ∀ (k : Nat) (p : Pt), s.parts[k]? = some p → ∀ v, InR2 I k v → InB (liveB p (O.getD k [])) v
theorem LInv.rowI {s : Sa} {I O : List (List Bool)} (h : LInv s I O) {k : Nat} (hk : k < s.parts.length) : ((I.getD k []).length : Int) = s.values := by
  have hk' : k < I.length := by rw [h.li]; exact hk
  rw [List.getD_eq_getElem?_getD, List.getElem?_eq_getElem hk']
  exact h.ri _ (List.getElem_mem hk')
theorem LInv.rowO {s : Sa} {I O : List (List Bool)} (h : LInv s I O) {k : Nat} (hk : k < s.parts.length) : ((O.getD k []).length : Int) = s.values := by
  have hk' : k < O.length := by rw [h.lo]; exact hk
  rw [List.getD_eq_getElem?_getD, List.getElem?_eq_getElem hk']
  exact h.ro _ (List.getElem_mem hk')
theorem bhB_iff {s : Sa} (h : GoodP s) {I : List (List Bool)} (hI : ∀ S ∈ I, (S.length : Int) = s.values) {k : Nat} {p : Pt} (hk : s.parts[k]? = some p) {S : List Bool} (hS : (S.length : Int) = s.values) {v : Int} :
    InB (bhB I p S) v ↔ BhP (InR2 I) p v ∨ InB S v := by
  unfold bhB
  have hrow : ∀ x : Int, ∀ m, InB (I.getD x.toNat []) m → 0 ≤ m ∧ m < s.values := fun x m hm => by
    have := InB_len hm
    rw [List.getD_eq_getElem?_getD] at this
    cases hx : I[x.toNat]? with
    | none => rw [hx] at this; simp at this; omega
    | some R =>
      rw [hx] at this
      have := hI R (List.mem_of_getElem? hx)
      simp at *; omega
  rw [InB_add (fun m hm => by
    rcases List.mem_append.1 hm with hm | hm
    · have := h.use_in hk (.inl hm); omega
    · obtain ⟨x, hx, hm⟩ := List.mem_flatMap.1 hm
      have := hrow x m (mem_listB.1 hm); omega)]
  refine or_congr ?_ Iff.rfl
  unfold BhP InR2
  rw [List.mem_append, List.mem_flatMap]
  exact or_congr Iff.rfl ⟨fun ⟨x, hx, hm⟩ => ⟨x, hx, mem_listB.1 hm⟩, fun ⟨x, hx, hm⟩ => ⟨x, hx, mem_listB.2 hm⟩⟩
theorem InR2_set {I : List (List Bool)} {k : Nat} {S : List Bool} (hk : k < I.length) {q : Nat} {v : Int} : InR2 (I.set k S) q v ↔ if q = k then InB S v else InR2 I q v := by
  unfold InR2
  rw [getD_set2 _ _ _ _ _ hk]
  split <;> rfl
theorem bhB_len (I : List (List Bool)) (p : Pt) (S : List Bool) : (bhB I p S).length = S.length := addB_len _ _
/-- One part's turn. -/
theorem LInv.turn {s : Sa} (h : GoodP s) {I O : List (List Bool)} (hi : LInv s I O) {k : Nat} {p : Pt} (hk : s.parts[k]? = some p) :
    LInv s (I.set k (liveB p (bhB I p (O.getD k [])))) (O.set k (bhB I p (O.getD k []))) ∧ ∀ v, InR2 I k v → InB (liveB p (bhB I p (O.getD k []))) v := by
  obtain ⟨hkl, hke⟩ := List.getElem?_eq_some_iff.1 hk
  have hkI : k < I.length := by rw [hi.li]; exact hkl
  have hkO : k < O.length := by rw [hi.lo]; exact hkl
  have hOl := hi.rowO hkl
  have hB : ∀ v, InB (bhB I p (O.getD k [])) v ↔ BhP (InR2 I) p v ∨ InB (O.getD k []) v := fun v => bhB_iff h hi.ri hk hOl
  have hBl : ((bhB I p (O.getD k [])).length : Int) = s.values := by rw [bhB_len]; exact hOl
  have hL : ∀ v, InB (liveB p (bhB I p (O.getD k []))) v ↔ ((InB (bhB I p (O.getD k [])) v ∨ v ∈ p.code.flatMap usesS) ∧ v ∉ ownS p) := fun v => InB_live h hk hBl
  have hL0 : ∀ v, InB (liveB p (O.getD k [])) v ↔ ((InB (O.getD k []) v ∨ v ∈ p.code.flatMap usesS) ∧ v ∉ ownS p) := fun v => InB_live h hk hOl
  have hup : ∀ v, InR2 I k v → InB (liveB p (bhB I p (O.getD k []))) v := fun v hv => by
    have h1 := (hL0 v).1 (hi.up k p hk v hv)
    exact (hL v).2 ⟨h1.1.imp (fun h => (hB v).2 (.inr h)) id, h1.2⟩
  have hso : ∀ v, InB (bhB I p (O.getD k [])) v → LvO s k v := fun v hv => by
    rcases (hB v).1 hv with hv | hv
    · exact ⟨p, hk, hv.mono hi.si⟩
    · exact hi.so k v hv
  refine ⟨⟨by rw [List.length_set]; exact hi.li, by rw [List.length_set]; exact hi.lo, fun S hS => ?_, fun S hS => ?_, fun q v hv => ?_, fun q v hv => ?_, fun q p' hq v hv => ?_⟩, hup⟩
  · rcases List.mem_or_eq_of_mem_set hS with hS | rfl
    · exact hi.ri S hS
    · rw [liveB_len]; exact hBl
  · rcases List.mem_or_eq_of_mem_set hS with hS | rfl
    · exact hi.ro S hS
    · exact hBl
  · rw [InR2_set hkI] at hv
    split at hv
    · rename_i e
      subst e
      have h1 := (hL v).1 hv
      refine LvI.of_ah hk ⟨?_, h1.2⟩
      rcases h1.1 with h1 | h1
      · obtain ⟨p', hp', h2⟩ := hso v h1
        rw [hk] at hp'; cases hp'
        exact .inl h2
      · exact .inr h1
    · exact hi.si q v hv
  · rw [InR2_set hkO] at hv
    split at hv
    · rename_i e
      subst e
      exact hso v hv
    · exact hi.so q v hv
  · rw [getD_set2 _ _ _ _ _ hkO]
    rw [InR2_set hkI] at hv
    split
    · rename_i e
      subst e
      rw [if_pos rfl] at hv
      rw [hk] at hq; cases hq
      exact hv
    · rename_i e
      rw [if_neg e] at hv
      exact hi.up q p' hq v hv
/-- A part asks for no more. -/
def Still (s : Sa) (I O : List (List Bool)) (q : Nat) : Prop := ∀ p, s.parts[q]? = some p → (∀ v, BhP (InR2 I) p v → InR2 O q v) ∧ ∀ v, ((InR2 O q v ∨ v ∈ p.code.flatMap usesS) ∧ v ∉ ownS p) → InR2 I q v
theorem still_turn {s : Sa} (h : GoodP s) {I O : List (List Bool)} (hi : LInv s I O) {k : Nat} {p : Pt} (hk : s.parts[k]? = some p) (he : liveB p (bhB I p (O.getD k [])) = I.getD k []) (hs : ∀ q, q < k → Still s I O q) :
    I.set k (liveB p (bhB I p (O.getD k []))) = I ∧ ∀ q, q < k + 1 → Still s I (O.set k (bhB I p (O.getD k []))) q := by
  obtain ⟨hkl, hke⟩ := List.getElem?_eq_some_iff.1 hk
  have hkI : k < I.length := by rw [hi.li]; exact hkl
  have hkO : k < O.length := by rw [hi.lo]; exact hkl
  have hOl := hi.rowO hkl
  have hBl : ((bhB I p (O.getD k [])).length : Int) = s.values := by rw [bhB_len]; exact hOl
  refine ⟨?_, fun q hq p' hp' => ?_⟩
  · rw [he, List.getD_eq_getElem?_getD, List.getElem?_eq_getElem hkI]
    exact List.set_getElem_self hkI
  · rcases Nat.lt_or_eq_of_le (Nat.le_of_lt_succ hq) with hq | rfl
    · obtain ⟨h1, h2⟩ := hs q hq p' hp'
      have e : ∀ v, InR2 (O.set k (bhB I p (O.getD k []))) q v ↔ InR2 O q v := fun v => by rw [InR2_set hkO, if_neg (by omega)]
      exact ⟨fun v hv => (e v).2 (h1 v hv), fun v hv => h2 v (by rw [e v] at hv; exact hv)⟩
    · rw [hk] at hp'; cases hp'
      have e : ∀ v, InR2 (O.set q (bhB I p (O.getD q []))) q v ↔ InB (bhB I p (O.getD q [])) v := fun v => by rw [InR2_set hkO, if_pos rfl]
      refine ⟨fun v hv => (e v).2 ((bhB_iff h hi.ri hk hOl).2 (.inl hv)), fun v hv => ?_⟩
      rw [e v] at hv
      show InB (I.getD q []) v
      rw [← he]
      exact (InB_live h hk hBl).2 hv
/-- Where no part asks for more, it is what is needed. -/
theorem still_all {s : Sa} (h : GoodP s) {I O : List (List Bool)} (hi : LInv s I O) (hs : ∀ q, q < s.parts.length → Still s I O q) : (∀ k v, InR2 I k v ↔ LvI s k v) ∧ ∀ k v, InR2 O k v ↔ LvO s k v := by
  have h1 : ∀ k v, LvI s k v → InR2 I k v := fun k v hv => by
    refine LvI.least (I := InR2 I) (fun q p hq u hu => ?_) hv
    obtain ⟨a, b⟩ := hs q (List.getElem?_eq_some_iff.1 hq).1 p hq
    exact b u ⟨hu.1.imp (a u) id, hu.2⟩
  refine ⟨fun k v => ⟨hi.si k v, h1 k v⟩, fun k v => ⟨hi.so k v, fun ⟨p, hp, hv⟩ => ?_⟩⟩
  exact (hs k (List.getElem?_eq_some_iff.1 hp).1 p hp).1 v (hv.mono h1)
/-- How much is in. -/
def cntB (I : List (List Bool)) : Nat := (I.map (fun S : List Bool => S.count true)).sum
theorem count_lt {S R : List Bool} (hl : S.length = R.length) (h : ∀ v, InB S v → InB R v) : S.count true ≤ R.count true ∧ (S ≠ R → S.count true < R.count true) := by
  induction S generalizing R with
  | nil => cases R with
    | nil => exact ⟨Nat.le_refl _, fun h => absurd rfl h⟩
    | cons y u => simp at hl
  | cons x t ih =>
    cases R with
    | nil => simp at hl
    | cons y u =>
      have ht : ∀ v, InB t v → InB u v := fun v hv => by
        have := h (v + 1) ⟨by have := hv.1; omega, by
          rw [show (v + 1).toNat = v.toNat + 1 by have := hv.1; omega, List.getD_cons_succ]; exact hv.2⟩
        have h2 := this.2
        rw [show (v + 1).toNat = v.toNat + 1 by have := hv.1; omega, List.getD_cons_succ] at h2
        exact ⟨hv.1, h2⟩
      have hx : x = true → y = true := fun e => by
        have := h 0 ⟨Int.le_refl _, by subst e; rfl⟩
        exact this.2
      obtain ⟨i1, i2⟩ := ih (by simpa using hl) ht
      simp only [List.count_cons]
      cases x <;> cases y <;> simp at hx ⊢
      · exact ⟨i1, i2⟩
      · omega
      · exact ⟨i1, i2⟩
theorem cntB_set {I : List (List Bool)} {k : Nat} {S : List Bool} (hk : k < I.length) : cntB (I.set k S) + (I.getD k []).count true = cntB I + S.count true := by
  unfold cntB
  induction I generalizing k with
  | nil => simp at hk
  | cons x t ih =>
    cases k with
    | zero => simp; omega
    | succ k =>
      simp only [List.set_cons_succ, List.map_cons, List.sum_cons, List.getD_cons_succ]
      have := ih (k := k) (by simpa using hk)
      omega
theorem cntB_le {I : List (List Bool)} {V : Nat} (h : ∀ S ∈ I, S.length = V) : cntB I ≤ I.length * V := by
  unfold cntB
  induction I with
  | nil => simp
  | cons x t ih =>
    have h1 := ih (fun S hS => h S (List.mem_cons_of_mem _ hS))
    have h2 := h x List.mem_cons_self
    have h3 := List.count_le_length (a := true) (l := x)
    simp only [List.map_cons, List.sum_cons, List.length_cons, Nat.succ_mul]
    omega
theorem cnt_turn {s : Sa} (h : GoodP s) {I O : List (List Bool)} (hi : LInv s I O) {k : Nat} {p : Pt} (hk : s.parts[k]? = some p) :
    cntB I ≤ cntB (I.set k (liveB p (bhB I p (O.getD k [])))) ∧ (liveB p (bhB I p (O.getD k [])) ≠ I.getD k [] → cntB I < cntB (I.set k (liveB p (bhB I p (O.getD k []))))) := by
  obtain ⟨hkl, hke⟩ := List.getElem?_eq_some_iff.1 hk
  have hkI : k < I.length := by rw [hi.li]; exact hkl
  have h1 := cntB_set (S := liveB p (bhB I p (O.getD k []))) hkI
  have hlen : (I.getD k []).length = (liveB p (bhB I p (O.getD k []))).length := by
    have a := hi.rowI hkl
    have b := hi.rowO hkl
    rw [liveB_len, bhB_len]; omega
  obtain ⟨c1, c2⟩ := count_lt hlen (hi.turn h hk).2
  refine ⟨by omega, fun hne => ?_⟩
  have := c2 (fun e => hne e.symm)
  omega
theorem linv0 {s : Sa} (hV : 0 ≤ s.values) : LInv s (List.replicate s.parts.length (List.replicate s.values.toNat false)) (List.replicate s.parts.length (List.replicate s.values.toNat false)) := by
  have hno : ∀ k v, ¬ InR2 (List.replicate s.parts.length (List.replicate s.values.toNat false)) k v := fun k v hv => by
    have h2 := hv.2
    rw [List.getD_eq_getElem?_getD, List.getD_eq_getElem?_getD, List.getElem?_replicate] at h2
    split at h2
    · simp only [Option.getD_some, List.getElem?_replicate] at h2
      split at h2 <;> cases h2
    · simp at h2
  have hr : ∀ S ∈ List.replicate s.parts.length (List.replicate s.values.toNat false), (S.length : Int) = s.values := fun S hS => by
    rw [(List.mem_replicate.1 hS).2, List.length_replicate]; omega
  exact ⟨List.length_replicate, List.length_replicate, hr, hr, fun k v hv => absurd hv (hno k v), fun k v hv => absurd hv (hno k v), fun k p _ v hv => absurd hv (hno k v)⟩
end Go.Proofs.Ytmcnoeinjocimaa.L

set_option linter.unusedVariables false
set_option linter.unusedSimpArgs false
namespace Go.Proofs.Ytmcnoeinjocimaa.L
open Go.RowKit
/-- A list of an ssa, and whether it is good. -/
inductive ListRes (G : Prop) (L : List Int) (w : World) (e : Ending) (w' : World) : Prop where
  | mk (g : Bool) (v : Value) (hg : Hid (g = true ↔ G)) (he : e = .returned (.tuple #[v, .bool g])) (hv : Ow true 3 Rp.int w' (fun q => w.heap.size ≤ q) v (if g = true then L else [])) (hb : Below w.heap.size w w') : ListRes G L w e w'
set_option maxRecDepth 100000 in
set_option maxHeartbeats 4000000 in
theorem defsOfS_calls {F : Nat → Prop} (s : Sa) (vparts : Value) (w : World) (hs : Rp.Rd part w F vparts s.parts) (hx1 : s.parts.length ≤ 1048576) (hx2 : ∀ p ∈ s.parts, PtLim p) :
    Calls Try.prog 19 #[saV s vparts] w (ListRes (GoodP s) ((defsS s).getD []) w) := by
  obtain ⟨A, c, rfl, hlc, hcm, hrow⟩ := rd_part hs
  have HG := Lib.hid (fun W (hW : Below w.heap.size w W) => goodS_calls s _ W (hs.below hW) hx1 hx2)
  have HD := Lib.hid (fun W (hW : Below w.heap.size w W) (h : GoodP s) => l9Defs_calls s _ W (hs.below hW) hx1 hx2 h.v1 h.v2)
  unfold saV at HG HD ⊢
  have hB0 : Below w.heap.size w (w.alloc (.cells #[.slice A s.parts.length c, .int .i64 s.values] 29)) := below_new _
  have b0 := heap_alloc_new w (.cells #[.slice A s.parts.length c, .int .i64 s.values] 29)
  go_enter Try.func19, Try.ntmps19
  go_wp2_with fail
  refine (HG.out _ hB0).mono ?_
  rintro e w1 ⟨g, rfl, hg, hb1⟩
  have hB1 := below_then hB0 hb1
  have b1 := blk_below b0 hb1
  clear hb1 b0 hB0 HG
  cases g
  · go_wp2
    refine bodyPost_ret (v := .tuple #[.slice none 0 0, .bool false]) (by simp [results, Try.results19, go_sem]) rfl ?_
    exact .mk false _ hg rfl (Ow.nil _ _ _ _ _) hB1
  have hgp := Lib.hid (hg.out.1 rfl)
  obtain ⟨v0, _⟩ := cell_of_block b1
  have x0 : w1.cell? ⟨w.heap.size, 0, none⟩ = some (.slice A s.parts.length c) := (v0 0).trans rfl
  have x1 : w1.cell? ⟨w.heap.size, 1, none⟩ = some (.int .i64 s.values) := (v0 1).trans rfl
  clear v0
  go_wp2_with fail
  refine (HD.out _ hB1 hgp.out).mono ?_
  rintro e w2 ⟨v, rfl, hv, hb2⟩
  have hB2 := below_then hB1 hb2
  have hS := hB1.size
  go_wp2
  refine bodyPost_ret (v := .tuple #[v, .bool true]) (by simp [results, Try.results19, go_sem]) rfl ?_
  exact .mk true _ (Lib.hid ⟨fun _ => hgp.out, fun _ => rfl⟩) rfl (by rw [if_pos rfl]; exact hv.mono (fun q hq => Nat.le_trans hS hq)) hB2
theorem zeroInt (w : World) : (zeroValue 3).run Try.prog w = .ok (.int .i64 0) w := by
  obtain ⟨i, hi, hzz⟩ := Option.map_eq_some_iff.1 infoInt
  simp only [Prod.mk.injEq] at hzz
  simp [zeroValue, typeInfo, hi, hzz.1]
theorem setCells_chg (g : Nat) : ∀ (vs : List Value) (o : Nat) (w : World), Chg (fun q => q = g) w (w.setCells g o vs)
  | [], _, w => Chg.refl _ _
  | v :: r, o, w => (Chg.set (A := fun q => q = g) rfl).trans (setCells_chg g r (o + 1) (w.setCell ⟨g, o, none⟩ v))
theorem setInts_ow {ap : Bool} {e g n k : Nat} {F : Nat → Prop} {c : List Int} : ∀ {b a : List Int} {w : World}, Ow ap e Rp.int w F (.slice (some ⟨g, 0, none⟩) n k) (a ++ b ++ c) → True →
    Ow ap e Rp.int (w.setCells g a.length (List.replicate b.length (.int .i64 0))) F (.slice (some ⟨g, 0, none⟩) n k) (a ++ List.replicate b.length 0 ++ c)
  | [], a, w, h, _ => h
  | x :: b, a, w, h, _ => by
    have hs := h.set1 rfl (i := a.length) (by simp) (y := 0) (u := .int .i64 0) rfl
    have he : (a ++ (x :: b) ++ c).set a.length 0 = (a ++ [0]) ++ b ++ c := by simp
    rw [he] at hs
    have := setInts_ow hs trivial
    rw [List.length_append, List.length_singleton] at this
    show Ow ap e Rp.int ((w.setCell ⟨g, a.length, none⟩ (.int .i64 0)).setCells g (a.length + 1) (List.replicate b.length (.int .i64 0))) F _ _
    have e2 : a ++ List.replicate (x :: b).length 0 ++ c = a ++ [0] ++ List.replicate b.length 0 ++ c := by simp [List.replicate_succ]
    rw [e2]
    exact this
set_option maxRecDepth 100000 in
set_option maxHeartbeats 4000000 in
theorem defsOfI_calls {F : Nat → Prop} (s : Sa) (vparts : Value) (w : World) (hs : Rp.Rd part w F vparts s.parts) (hx1 : s.parts.length ≤ 1048576) (hx2 : ∀ p ∈ s.parts, PtLim p) :
    Calls Try.prog 20 #[saV s vparts] w (ListRes (∃ D T M, GoodV s D T M) ((defsS s).getD []) w) := by
  obtain ⟨A, c, rfl, _, _, _⟩ := rd_part hs
  have HC := Lib.hid (fun W (hW : Below w.heap.size w W) => viewOf_calls s _ W (hs.below hW) hx1 hx2)
  unfold saV at HC ⊢
  have hB0 : Below w.heap.size w (w.alloc (.cells #[.slice A s.parts.length c, .int .i64 s.values] 29)) := below_new _
  have hz0 : (w.alloc (.cells #[.slice A s.parts.length c, .int .i64 s.values] 29)).heap.size = w.heap.size + 1 := by simp
  go_enter Try.func20, Try.ntmps20
  go_wp2_with fail
  refine (HC.out _ hB0).mono ?_
  rintro e w1 (⟨rfl, hn, hb⟩ | ⟨vb, D, T, M, vn, vd, vD, vT, rfl, hv, hz, hD, hT, hM, hN, hg, hb⟩)
  · have HN : Hid (false = true ↔ ∃ D T M, GoodV s D T M) := Lib.hid ⟨fun h => Bool.noConfusion h, fun h => absurd h hn.out⟩
    have hb2 := below_then hB0 hb
    clear hn
    go_wp2
    refine bodyPost_ret (v := .tuple #[.slice none 0 0, .bool false]) (by simp [results, Try.results20, go_sem]) rfl ?_
    exact .mk false _ HN rfl (Ow.nil _ _ _ _ _) hb2
  · have HN : Hid (true = true ↔ ∃ D T M, GoodV s D T M) := Lib.hid ⟨fun _ => ⟨D, T, M, hg.out⟩, fun _ => rfl⟩
    have hb2 := below_then hB0 hb
    have HE := Lib.hid (defs_eq hg.out).1
    have hl := (defs_eq hg.out).2
    have hv1 := hg.out.v1
    have hv2 := hg.out.v2
    clear hg hT hM hN
    obtain ⟨gd, cd, rfl, hF, _⟩ := hD.some_form (by omega)
    obtain ⟨c0, c1, c2, c3, c4, c5⟩ := view_cells hv
    have j0 : (12 : Int) ≤ (D.length : Int) := by omega
    obtain ⟨_, _, hfe, hcd, hcm⟩ := hD.form
    cases hfe
    have j1 : (12 : Int) ≤ (cd : Int) := by omega
    have hgd : w.heap.size ≤ gd ∧ gd ≠ vb := by have := hF.1; have := hF.2; rw [hz0] at *; omega
    have hD1 := hD.int_own
    have hget : ∀ j, j < 12 → ∃ y, w1.cell? ⟨gd, 0 + j, none⟩ = some (.int .i64 y) ∧ w1.frozen? ⟨gd, 0 + j, none⟩ = false := fun j hj => by
      obtain ⟨d1, d2⟩ := hD.int_at (show j < D.length by omega)
      rw [Nat.zero_add]
      exact ⟨_, d1, d2⟩
    have hcl := Lib.run_clear_slice (P := Try.prog) w1 35 3 0 (.int .i64 0) Try.underlying35 zeroInt rfl rfl gd 0 12 cd (by omega) (fun q hq => by obtain ⟨y, h, _⟩ := hget q hq; rw [h]; rfl) (fun q hq => (hget q hq).choose_spec.2)
    have hCh := setCells_chg gd (List.replicate 12 (.int .i64 0)) 0 w1
    have hOw := setInts_ow (a := []) (b := D.take 12) (c := D.drop 12) (w := w1) (by rw [List.nil_append, List.take_append_drop]; exact hD1) trivial
    have htl : (D.take 12).length = 12 := by rw [List.length_take]; omega
    rw [htl, List.nil_append] at hOw
    simp only [List.length_nil] at hOw
    have hv2 := hCh.blk hv (fun h => hgd.2 h.symm)
    have hB3 := hCh.to_below hb2 hb2.size (fun q hq => by have hq : q = gd := hq; omega)
    clear hget
    generalize w1.setCells gd 0 (List.replicate 12 (.int .i64 0)) = w2 at *
    obtain ⟨e0, e1, e2, e3, e4, e5⟩ := view_cells hv2
    replace hcl := hcl
    go_wp2
    refine bodyPost_ret (v := .tuple #[.slice (some ⟨gd, 0, none⟩) D.length cd, .bool true]) (by simp [results, Try.results20, go_sem]) rfl ?_
    exact .mk true _ (Lib.hid ⟨fun _ => HN.out.1 trivial, fun _ => rfl⟩) rfl (by rw [if_pos rfl, HE.out]; exact hOw.mono (fun q hq => by have hq : q = gd := hq; omega)) hB3
end Go.Proofs.Ytmcnoeinjocimaa.L
