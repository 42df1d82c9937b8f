/- Joined texts, each of which was built by itself: Du1 De1 De2 Us2 Op0 Ap1 Is2 Se1 Pa1. -/
import Derived.Test.YtnfaibenekninaaGreatFDropUnused3
import Derived.Test.YtnfaibenekninaaGreatFDropUnused1
import Derived.Test.YtnfaibenekninaaGreatFDropUnused2
import Derived.Test.YtnfaibenekninaaGreatB11
import Derived.Shelf.RegionOpenPlain
import Derived.Deep.RegionLaw
import Derived.Test.YtnfaibenekninaaGreatB1
import Derived.Test.YtnfaibenekninaaGreatB3
import Derived.Maps.AppendAt
import Derived.Test.YtnfaibenekninaaGreatB12
import Derived.Deep.RegionHeld3
set_option linter.unusedVariables false
set_option linter.unusedSimpArgs false
namespace Go.Proofs.YtnfaibenekninaaGreat.L
open Go.RowKit
def pureB (x : Fl) : Bool := x.op == 1 || x.op == 2 || x.op == 3 && x.dO != 7
/-- A step that does nothing but give a value that nobody uses. -/
def idleP (U : List Int) (x : Fl) : Bool := pureB x && U.getD x.dst.toNat 0 == 0
def cutStep (p : Pt) (i : Nat) : Pt := { p with code := p.code.eraseIdx i }
def stepD (U : List Int) : List Pt → Option (List Pt)
  | [] => none
  | p :: t => if 0 ≤ ixOf (idleP U) p.code then some (cutStep p (ixOf (idleP U) p.code).toNat :: t) else (stepD U t).map (fun r => p :: r)
theorem stepD_none {U : List Int} : ∀ {l : List Pt}, (∀ (j : Nat) (hj : j < l.length), ixOf (idleP U) l[j].code < 0) → stepD U l = none
  | [], _ => rfl
  | p :: t, h => by
    have h0 : ixOf (idleP U) p.code < 0 := h 0 (by simp)
    have ht := stepD_none (l := t) (fun j hj => h (j + 1) (by simpa using hj))
    unfold stepD
    rw [if_neg (by omega), ht]; rfl
theorem stepD_hit {U : List Int} : ∀ {l : List Pt} {k : Nat} (hk : k < l.length), (∀ (j : Nat) (hj : j < l.length), j < k → ixOf (idleP U) l[j].code < 0) → ∀ i : Nat, ixOf (idleP U) l[k].code = i → stepD U l = some (l.set k (cutStep l[k] i))
  | [], k, hk, _, _, _ => by simp at hk
  | p :: t, 0, hk, _, i, hi => by
    have hi : ixOf (idleP U) p.code = i := hi
    unfold stepD
    rw [if_pos (by omega), hi]; rfl
  | p :: t, k + 1, hk, h, i, hi => by
    have h0 : ixOf (idleP U) p.code < 0 := h 0 (by simp) (by omega)
    have hk' : k < t.length := by simpa using hk
    have ht := stepD_hit (l := t) hk' (fun j hj hjk => h (j + 1) (by simpa using hj) (by omega)) i (by simpa using hi)
    unfold stepD
    rw [if_neg (by omega), ht]; rfl
theorem ixOf_lt {α : Type} {p : α → Bool} {l : List α} {i : Nat} (h : ixOf p l = i) : i < l.length := by
  unfold ixOf at h
  cases hf : l.findIdx? p with
  | none => rw [hf] at h; simp at h
  | some j =>
    rw [hf] at h
    have := (List.findIdx?_eq_some_iff_getElem.1 hf).1
    have h : (j : Int) = i := h
    omega
theorem stepD_some {U : List Int} : ∀ {l r : List Pt}, stepD U l = some r → ∃ (k i : Nat) (hk : k < l.length), i < l[k].code.length ∧ r = l.set k (cutStep l[k] i)
  | [], r, h => by simp [stepD] at h
  | p :: t, r, h => by
    unfold stepD at h
    split at h
    · rename_i h0
      cases h
      refine ⟨0, (ixOf (idleP U) p.code).toNat, by simp, ?_, rfl⟩
      show _ < p.code.length
      exact ixOf_lt (p := idleP U) (l := p.code) (by omega)
    · obtain ⟨r', hr, rfl⟩ := Option.map_eq_some_iff.1 h
      obtain ⟨k, i, hk, hi, rfl⟩ := stepD_some hr
      exact ⟨k + 1, i, by simpa using hk, by simpa using hi, rfl⟩
/-- A Param goes, with its Args. -/
def cutA (k : Int) (i : Nat) (next : List Int) (args : List (List Int)) : Nat → List (List Int)
  | 0 => args
  | m + 1 => if next.getD m 0 = k then (cutA k i next args m).set m (((cutA k i next args m).getD m []).eraseIdx i) else cutA k i next args m
theorem cutA_len (k : Int) (i : Nat) (next : List Int) (args : List (List Int)) (m : Nat) : (cutA k i next args m).length = args.length := by
  induction m with
  | zero => rfl
  | succ m ih => unfold cutA; split <;> simp [ih]
theorem cutA_get (k : Int) (i : Nat) (next : List Int) (args : List (List Int)) (m w : Nat) : (cutA k i next args m).getD w [] = if w < m ∧ next.getD w 0 = k then (args.getD w []).eraseIdx i else args.getD w [] := by
  induction m generalizing w with
  | zero => simp [cutA]
  | succ m ih =>
    unfold cutA
    by_cases hk : next.getD m 0 = k
    · rw [if_pos hk]
      by_cases hw : w = m
      · subst hw
        rw [if_pos ⟨by omega, hk⟩]
        by_cases hl : w < args.length
        · rw [List.getD_eq_getElem?_getD, List.getElem?_set, if_pos rfl, if_pos (by rw [cutA_len]; exact hl), Option.getD_some, ih w, if_neg (by omega)]
        · rw [List.set_eq_of_length_le (by rw [cutA_len]; omega), ih w, if_neg (by omega), List.getD_eq_getElem?_getD, List.getElem?_eq_none (by omega)]; simp
      · rw [List.getD_eq_getElem?_getD, List.getElem?_set, if_neg (Ne.symm hw), ← List.getD_eq_getElem?_getD, ih w]
        by_cases h : w < m ∧ next.getD w 0 = k
        · rw [if_pos h, if_pos ⟨by omega, h.2⟩]
        · rw [if_neg h, if_neg (fun h' => h ⟨by omega, h'.2⟩)]
    · rw [if_neg hk, ih w]
      by_cases h : w < m ∧ next.getD w 0 = k
      · rw [if_pos h, if_pos ⟨by omega, h.2⟩]
      · rw [if_neg h, if_neg]
        rintro ⟨h1, h2⟩
        by_cases hw : w = m
        · subst hw; exact hk h2
        · exact h ⟨by omega, h2⟩
def cutP (k : Int) (i : Nat) (p : Pt) : Pt := { p with args := cutA k i p.next p.args p.next.length }
def cutPar (p : Pt) (i : Nat) : Pt := { p with params := p.params.eraseIdx i }
def unparB (l : List Pt) (k i : Nat) : List Pt := l.set k (cutPar (l.getD k zPt) i)
def unparD (l : List Pt) (k i : Nat) : List Pt := (unparB l k i).map (cutP k i)
theorem unparD_len (l : List Pt) (k i : Nat) : (unparD l k i).length = l.length := by unfold unparD unparB; simp
theorem unparD_get {l : List Pt} {k i q : Nat} {r : Pt} (h : (unparD l k i)[q]? = some r) : ∃ p, l[q]? = some p ∧ r = cutP k i (if q = k then cutPar p i else p) := by
  unfold unparD unparB at h
  rw [List.getElem?_map, List.getElem?_set] at h
  by_cases hq : q = k
  · subst hq
    rw [if_pos rfl] at h
    split at h
    · rename_i hl
      simp only [Option.map_some, Option.some.injEq] at h
      refine ⟨l[q], List.getElem?_eq_getElem hl, ?_⟩
      rw [if_pos rfl, ← h, List.getD_eq_getElem?_getD, List.getElem?_eq_getElem hl]; rfl
    · simp at h
  · rw [if_neg (Ne.symm hq)] at h
    obtain ⟨p, hp, rfl⟩ := Option.map_eq_some_iff.1 h
    exact ⟨p, hp, by rw [if_neg hq]⟩
/-- A Param that nobody uses but Args for it itself. -/
def idleQ (U : List Int) (l : List Pt) (k : Nat) (p : Pt) (i : Nat) : Bool := U.getD (p.params.getD i 0).toNat 0 == ((handS l k i).count (p.params.getD i 0) : Int)
def parIn (U : List Int) (l : List Pt) (k : Nat) (p : Pt) : Int := ixOf (idleQ U l k p) (List.range p.params.length)
def parD (U : List Int) (l : List Pt) : Nat → List Pt → Option (Nat × Nat)
  | _, [] => none
  | k, p :: t => if 0 ≤ parIn U l k p then some (k, (parIn U l k p).toNat) else parD U l (k + 1) t
theorem parIn_hit {U : List Int} {l : List Pt} {k : Nat} {p : Pt} {i : Nat} (hi : i < p.params.length) (h : ∀ j, j < i → idleQ U l k p j = false) (hp : idleQ U l k p i = true) : parIn U l k p = i :=
  ixOf_hit (by simpa using hi) (fun j hj hji => by simpa using h j hji) (by simpa using hp)
theorem parIn_none {U : List Int} {l : List Pt} {k : Nat} {p : Pt} (h : ∀ j, j < p.params.length → idleQ U l k p j = false) : parIn U l k p < 0 := by
  unfold parIn
  rw [ixOf_none (fun j hj => by simpa using h j (by simpa using hj))]; omega
theorem parD_none {U : List Int} {l : List Pt} : ∀ {t : List Pt} {k0 : Nat}, (∀ (j : Nat) (hj : j < t.length), parIn U l (k0 + j) t[j] < 0) → parD U l k0 t = none
  | [], _, _ => rfl
  | p :: t, k0, h => by
    have h0 : parIn U l k0 p < 0 := h 0 (by simp)
    unfold parD
    rw [if_neg (by omega)]
    exact parD_none (fun j hj => by
      have := h (j + 1) (by simpa using hj)
      rw [show k0 + (j + 1) = k0 + 1 + j by omega] at this
      simpa using this)
theorem parD_hit {U : List Int} {l : List Pt} : ∀ {t : List Pt} {k0 k : Nat} (hk : k < t.length), (∀ (j : Nat) (hj : j < t.length), j < k → parIn U l (k0 + j) t[j] < 0) → ∀ i : Nat, parIn U l (k0 + k) t[k] = i → parD U l k0 t = some (k0 + k, i)
  | [], _, k, hk, _, _, _ => by simp at hk
  | p :: t, k0, 0, hk, _, i, hi => by
    have hi : parIn U l k0 p = i := hi
    unfold parD
    rw [if_pos (by omega), hi]; rfl
  | p :: t, k0, k + 1, hk, h, i, hi => by
    have h0 : parIn U l k0 p < 0 := h 0 (by simp) (by omega)
    unfold parD
    rw [if_neg (by omega), parD_hit (t := t) (k0 := k0 + 1) (k := k) (by simpa using hk) (fun j hj hjk => by
      have := h (j + 1) (by simpa using hj) (by omega)
      rw [show k0 + (j + 1) = k0 + 1 + j by omega] at this
      simpa using this) i (by rw [show k0 + 1 + k = k0 + (k + 1) by omega]; simpa using hi), show k0 + 1 + k = k0 + (k + 1) by omega]
theorem parD_some {U : List Int} {l : List Pt} : ∀ {t : List Pt} {k0 k i : Nat}, parD U l k0 t = some (k, i) → ∃ j, k = k0 + j ∧ ∃ hj : j < t.length, i < t[j].params.length
  | [], _, _, _, h => by simp [parD] at h
  | p :: t, k0, k, i, h => by
    unfold parD at h
    split at h
    · rename_i h0
      cases h
      refine ⟨0, by omega, by simp, ?_⟩
      have := ixOf_lt (p := idleQ U l k0 p) (l := List.range p.params.length) (i := (parIn U l k0 p).toNat) (by unfold parIn at h0 ⊢; omega)
      simpa using this
    · obtain ⟨j, rfl, hj, hi⟩ := parD_some h
      exact ⟨j + 1, by omega, by simpa using hj, by simpa using hi⟩
def usesN (s : Sa) : List Int := cntL s.values.toNat (usesAll s)
/-- One thing dropped. -/
def paramD (s : Sa) : Option (List Pt) := (parD (usesN s) s.parts 0 s.parts).map (fun q => unparD s.parts q.1 q.2)
def dropOne (s : Sa) : Option Sa := ((stepD (usesN s) s.parts).or (paramD s)).map (fun l => ⟨l, s.values⟩)
def dropGo : Nat → Sa → Sa × Nat
  | 0, s => (s, 0)
  | f + 1, s => match dropOne s with
    | none => (s, 0)
    | some r => ((dropGo f r).1, (dropGo f r).2 + 1)
def muP (p : Pt) : Nat := p.code.length + p.params.length
def muS (s : Sa) : Nat := (s.parts.map muP).sum
def dropS (s : Sa) : Sa := (dropGo (muS s) s).1
def dropN (s : Sa) : Nat := (dropGo (muS s) s).2
theorem dropGo_none {s : Sa} (h : dropOne s = none) (f : Nat) : dropGo f s = (s, 0) := by
  cases f with
  | zero => rfl
  | succ f => unfold dropGo; rw [h]
/-- What holds of an ssa while things are dropped. -/
structure DOk (s : Sa) : Prop where
  v1 : 12 ≤ s.values
  v2 : s.values ≤ 250
  n : s.parts.length ≤ 11
  ok : ∀ p ∈ s.parts, PtOk p ∧ p.next.length ≤ 6
  rng : ∀ v ∈ usesAll s, 0 ≤ v ∧ v < s.values
  par : ∀ p ∈ s.parts, ∀ v ∈ p.params, 0 ≤ v ∧ v < s.values
  dst : ∀ p ∈ s.parts, ∀ x ∈ p.code, usesI x = usesS x ∧ (pureB x = true → 0 ≤ x.dst ∧ x.dst < s.values)
  ed : ∀ p ∈ s.parts, ∀ w, w < p.next.length → w < p.args.length ∧ ∀ (q : Nat) (r : Pt), s.parts[q]? = some r → p.next.getD w 0 = (q : Int) → (p.args.getD w []).length = r.params.length
theorem GoodP.dok {s : Sa} (h : GoodP s) : DOk s := by
  refine ⟨h.v1, h.v2, h.n2, fun p hp => ⟨h.ptOk hp, h.next_len hp⟩, fun v hv => ?_, fun p hp v hv => ?_, fun p hp x hx => ?_, fun p hp w hw => ?_⟩
  · obtain ⟨p, hp, hv⟩ := List.mem_flatMap.1 hv
    obtain ⟨k, hk⟩ := List.getElem?_of_mem hp
    rcases List.mem_append.1 hv with hv | hv
    · obtain ⟨x, hx, hv⟩ := List.mem_flatMap.1 hv
      exact (h.steps_in hk hx).2 v hv
    · exact h.use_in hk (.inl hv)
  · obtain ⟨k, hk⟩ := List.getElem?_of_mem hp
    have := h.own_def hk (v := v) (List.mem_append.2 (.inl hv))
    omega
  · obtain ⟨k, hk⟩ := List.getElem?_of_mem hp
    refine ⟨h.uses_eq hp hx, fun hpu => ?_⟩
    have := (h.steps_in hk hx).1 (by
      unfold pureB at hpu
      unfold setsS
      simp only [Bool.or_eq_true, Bool.and_eq_true, beq_iff_eq] at hpu
      rcases hpu with (hpu | hpu) | hpu
      · rw [hpu]; decide
      · rw [hpu]; decide
      · rw [hpu.1]; decide)
    omega
  · obtain ⟨h1, q, hq, h2⟩ := h.edge hp hw
    refine ⟨h1, fun q' r hr he => ?_⟩
    rw [he, Int.toNat_natCast, hr] at hq
    cases hq
    exact h2
theorem sum_set {l : List Nat} {k x : Nat} (hk : k < l.length) : (l.set k x).sum + l[k] = l.sum + x := by
  induction l generalizing k with
  | nil => simp at hk
  | cons a t ih =>
    cases k with
    | zero => simp; omega
    | succ k => have := ih (k := k) (by simpa using hk); simp only [List.set_cons_succ, List.sum_cons, List.getElem_cons_succ]; omega
theorem usesAll_mem {s : Sa} {v : Int} : v ∈ usesAll s ↔ ∃ p ∈ s.parts, v ∈ partU p := List.mem_flatMap
theorem stepD_ok {s : Sa} (h : DOk s) {U : List Int} {l : List Pt} (hl : stepD U s.parts = some l) : DOk ⟨l, s.values⟩ ∧ muS ⟨l, s.values⟩ + 1 = muS s := by
  obtain ⟨k, i, hk, hi, rfl⟩ := stepD_some hl
  have hm := List.getElem_mem hk
  have key : ∀ p ∈ s.parts.set k (cutStep s.parts[k] i), ∃ p0 ∈ s.parts, p.params = p0.params ∧ p.next = p0.next ∧ p.args = p0.args ∧ p.go = p0.go ∧ p.test = p0.test ∧ (∀ x ∈ p.code, x ∈ p0.code) ∧ p.code.length ≤ p0.code.length := by
    intro p hp
    rcases List.mem_or_eq_of_mem_set hp with hp | rfl
    · exact ⟨p, hp, rfl, rfl, rfl, rfl, rfl, fun x hx => hx, Nat.le_refl _⟩
    · exact ⟨s.parts[k], hm, rfl, rfl, rfl, rfl, rfl, fun x hx => (List.eraseIdx_sublist s.parts[k].code i).subset hx, (List.eraseIdx_sublist s.parts[k].code i).length_le⟩
  refine ⟨⟨h.v1, h.v2, by simpa using h.n, fun p hp => ?_, fun v hv => ?_, fun p hp v hv => ?_, fun p hp x hx => ?_, fun p hp w hw => ?_⟩, ?_⟩
  · obtain ⟨p0, h0, e1, e2, e3, e4, e5, e6, e7⟩ := key p hp
    have := h.ok p0 h0
    unfold PtOk at this ⊢
    rw [e1, e2, e3]
    exact ⟨⟨this.1.1, by have := this.1.2.1; omega, this.1.2.2⟩, this.2⟩
  · obtain ⟨p, hp, hv⟩ := usesAll_mem.1 hv
    obtain ⟨p0, h0, e1, e2, e3, e4, e5, e6, e7⟩ := key p hp
    refine h.rng v (usesAll_mem.2 ⟨p0, h0, ?_⟩)
    unfold partU endsS at hv ⊢
    rw [e3, e4, e5] at hv
    rcases List.mem_append.1 hv with hv | hv
    · obtain ⟨x, hx, hv⟩ := List.mem_flatMap.1 hv
      exact List.mem_append.2 (.inl (List.mem_flatMap.2 ⟨x, e6 x hx, hv⟩))
    · exact List.mem_append.2 (.inr hv)
  · obtain ⟨p0, h0, e1, _⟩ := key p hp
    exact h.par p0 h0 v (e1 ▸ hv)
  · obtain ⟨p0, h0, _, _, _, _, _, e6, _⟩ := key p hp
    exact h.dst p0 h0 x (e6 x hx)
  · obtain ⟨p0, h0, e1, e2, e3, _⟩ := key p hp
    rw [e2] at hw ⊢
    rw [e3]
    obtain ⟨h1, h2⟩ := h.ed p0 h0 w hw
    refine ⟨h1, fun q r hr he => ?_⟩
    have hr : (s.parts.set k (cutStep s.parts[k] i))[q]? = some r := hr
    rw [List.getElem?_set] at hr
    split at hr
    · rename_i hq
      subst hq
      obtain rfl : cutStep s.parts[k] i = r := by simpa [hk] using hr
      exact h2 k s.parts[k] (List.getElem?_eq_getElem hk) he
    · exact h2 q r hr he
  · unfold muS
    have := sum_set (l := s.parts.map muP) (k := k) (x := muP (cutStep s.parts[k] i)) (by simpa using hk)
    rw [List.map_set]
    rw [List.getElem_map] at this
    have h2 : muP (cutStep s.parts[k] i) + 1 = muP s.parts[k] := by
      unfold muP cutStep
      have := List.length_eraseIdx_of_lt hi
      show (s.parts[k].code.eraseIdx i).length + s.parts[k].params.length + 1 = _
      omega
    omega
theorem cutA_mem {k : Int} {i : Nat} {next : List Int} {args : List (List Int)} {m : Nat} {a : List Int} (h : a ∈ cutA k i next args m) : ∃ b ∈ args, (∀ v ∈ a, v ∈ b) ∧ a.length ≤ b.length := by
  obtain ⟨w, hw, rfl⟩ := List.getElem_of_mem h
  have hl : w < args.length := by rw [cutA_len] at hw; exact hw
  have hg := cutA_get k i next args m w
  rw [List.getD_eq_getElem?_getD, List.getElem?_eq_getElem hw, Option.getD_some, List.getD_eq_getElem?_getD (l := args), List.getElem?_eq_getElem hl, Option.getD_some] at hg
  refine ⟨args[w], List.getElem_mem hl, ?_⟩
  rw [hg]
  split
  · exact ⟨fun v hv => (List.eraseIdx_sublist _ _).subset hv, (List.eraseIdx_sublist _ _).length_le⟩
  · exact ⟨fun v hv => hv, Nat.le_refl _⟩
theorem paramD_ok {s : Sa} (h : DOk s) {l : List Pt} (hl : paramD s = some l) : DOk ⟨l, s.values⟩ ∧ muS ⟨l, s.values⟩ + 1 = muS s := by
  unfold paramD at hl
  obtain ⟨⟨k, i⟩, hki, rfl⟩ := Option.map_eq_some_iff.1 hl
  obtain ⟨j, hj, hk, hi⟩ := parD_some hki
  obtain rfl : k = j := by omega
  clear hki hj hl
  have hm := List.getElem_mem hk
  have key : ∀ p ∈ unparD s.parts k i, ∃ p0 ∈ s.parts, (∀ v ∈ p.params, v ∈ p0.params) ∧ p.params.length ≤ p0.params.length ∧ p.next = p0.next ∧ p.args = cutA k i p0.next p0.args p0.next.length ∧ p.go = p0.go ∧ p.test = p0.test ∧ p.code = p0.code := by
    intro p hp
    obtain ⟨q, hq⟩ := List.getElem?_of_mem hp
    obtain ⟨p0, h0, rfl⟩ := unparD_get hq
    refine ⟨p0, List.mem_of_getElem? h0, ?_⟩
    by_cases hqk : q = k
    · rw [if_pos hqk]
      exact ⟨fun v hv => (List.eraseIdx_sublist p0.params i).subset hv, (List.eraseIdx_sublist p0.params i).length_le, rfl, rfl, rfl, rfl, rfl⟩
    · rw [if_neg hqk]
      exact ⟨fun v hv => hv, Nat.le_refl _, rfl, rfl, rfl, rfl, rfl⟩
  refine ⟨⟨h.v1, h.v2, by show (unparD s.parts k i).length ≤ 11; rw [unparD_len]; exact h.n, fun p hp => ?_, fun v hv => ?_, fun p hp v hv => ?_, fun p hp x hx => ?_, fun p hp w hw => ?_⟩, ?_⟩
  · obtain ⟨p0, h0, e1, e2, e3, e4, e5, e6, e7⟩ := key p hp
    have := h.ok p0 h0
    unfold PtOk at this ⊢
    rw [e3, e4, e7, cutA_len]
    refine ⟨⟨by have := this.1.1; omega, this.1.2.1, this.1.2.2.1, this.1.2.2.2.1, fun a ha => ?_⟩, this.2⟩
    obtain ⟨b, hb, _, hlen⟩ := cutA_mem ha
    have := this.1.2.2.2.2 b hb
    omega
  · obtain ⟨p, hp, hv⟩ := usesAll_mem.1 hv
    obtain ⟨p0, h0, e1, e2, e3, e4, e5, e6, e7⟩ := key p hp
    refine h.rng v (usesAll_mem.2 ⟨p0, h0, ?_⟩)
    unfold partU endsS at hv ⊢
    rw [e4, e5, e6, e7] at hv
    rcases List.mem_append.1 hv with hv | hv
    · exact List.mem_append.2 (.inl hv)
    · refine List.mem_append.2 (.inr ?_)
      rcases List.mem_append.1 hv with hv | hv
      · exact List.mem_append.2 (.inl hv)
      · obtain ⟨a, ha, hv⟩ := List.mem_flatten.1 hv
        obtain ⟨b, hb, hs, _⟩ := cutA_mem ha
        exact List.mem_append.2 (.inr (List.mem_flatten.2 ⟨b, hb, hs v hv⟩))
  · obtain ⟨p0, h0, e1, _⟩ := key p hp
    exact h.par p0 h0 v (e1 v hv)
  · obtain ⟨p0, h0, _, _, _, _, _, _, e7⟩ := key p hp
    exact h.dst p0 h0 x (e7 ▸ hx)
  · obtain ⟨p0, h0, e1, e2, e3, e4, _⟩ := key p hp
    rw [e3] at hw ⊢
    rw [e4, cutA_len, cutA_get]
    obtain ⟨h1, h2⟩ := h.ed p0 h0 w hw
    refine ⟨h1, fun q r hr he => ?_⟩
    have hr : (unparD s.parts k i)[q]? = some r := hr
    obtain ⟨r0, hr0, rfl⟩ := unparD_get hr
    have h3 := h2 q r0 hr0 he
    by_cases hq : q = k
    · subst hq
      rw [if_pos ⟨hw, he⟩, if_pos rfl]
      have hrk : r0 = s.parts[q] := by rw [List.getElem?_eq_getElem hk] at hr0; exact (Option.some.inj hr0).symm
      subst hrk
      show ((p0.args.getD w []).eraseIdx i).length = (s.parts[q].params.eraseIdx i).length
      rw [List.length_eraseIdx_of_lt hi, List.length_eraseIdx_of_lt (by omega)]; omega
    · rw [if_neg (fun hh => hq (by have := hh.2; rw [he] at this; omega)), if_neg hq]
      exact h3
  · have e : (unparD s.parts k i).map muP = (s.parts.map muP).set k (muP (cutPar s.parts[k] i)) := by
      unfold unparD unparB
      rw [List.map_map, show (muP ∘ cutP k i) = muP from rfl, List.map_set, List.getD_eq_getElem?_getD, List.getElem?_eq_getElem hk]; rfl
    show ((unparD s.parts k i).map muP).sum + 1 = _
    rw [e]
    have := sum_set (l := s.parts.map muP) (k := k) (x := muP (cutPar s.parts[k] i)) (by simpa using hk)
    rw [List.getElem_map] at this
    have h2 : muP (cutPar s.parts[k] i) + 1 = muP s.parts[k] := by
      unfold muP cutPar
      have := List.length_eraseIdx_of_lt hi
      show s.parts[k].code.length + (s.parts[k].params.eraseIdx i).length + 1 = _
      omega
    unfold muS
    omega
theorem dropOne_ok {s r : Sa} (h : DOk s) (hr : dropOne s = some r) : DOk r ∧ muS r + 1 = muS s ∧ r.values = s.values := by
  unfold dropOne at hr
  obtain ⟨l, hl, rfl⟩ := Option.map_eq_some_iff.1 hr
  cases hs : stepD (usesN s) s.parts with
  | some l' =>
    rw [hs] at hl
    obtain rfl : l' = l := by simpa using hl
    have := stepD_ok h hs
    exact ⟨this.1, this.2, rfl⟩
  | none =>
    rw [hs] at hl
    have := paramD_ok h (l := l) (by simpa using hl)
    exact ⟨this.1, this.2, rfl⟩
/-- How far dropping has come. -/
structure DropTo (s r : Sa) (m : Nat) : Prop where
  ok : DOk r
  val : r.values = s.values
  mu : m + muS r = muS s
  eq : dropGo (muS s) s = ((dropGo (muS r) r).1, (dropGo (muS r) r).2 + m)
theorem DropTo.zero {s : Sa} (h : DOk s) : DropTo s s 0 := ⟨h, rfl, by omega, rfl⟩
theorem DropTo.step {s r r' : Sa} {m : Nat} (h : DropTo s r m) (hr : dropOne r = some r') : DropTo s r' (m + 1) := by
  obtain ⟨h1, h2, h3⟩ := dropOne_ok h.ok hr
  have hm := h.mu
  refine ⟨h1, h3.trans h.val, by omega, ?_⟩
  rw [h.eq, ← h2, dropGo, hr]
  simp only [Prod.mk.injEq, true_and]
  omega
theorem DropTo.done {s r : Sa} {m : Nat} (h : DropTo s r m) (hr : dropOne r = none) : dropS s = r ∧ dropN s = m := by
  unfold dropS dropN
  rw [h.eq, dropGo_none hr]
  exact ⟨rfl, by omega⟩
theorem muS_le {s : Sa} (h : DOk s) : muS s ≤ 4400 := by
  have : ∀ l : List Pt, (∀ p ∈ l, muP p ≤ 400) → (l.map muP).sum ≤ l.length * 400 := by
    intro l
    induction l with
    | nil => intro _; simp
    | cons p t ih =>
      intro hl
      have h1 := ih (fun q hq => hl q (List.mem_cons_of_mem _ hq))
      have h2 := hl p List.mem_cons_self
      simp only [List.map_cons, List.sum_cons, List.length_cons, Nat.succ_mul]; omega
  have h1 := this s.parts (fun p hp => by have := (h.ok p hp).1; unfold PtOk at this; unfold muP; omega)
  have h2 := Nat.mul_le_mul_right 400 h.n
  unfold muS; omega
theorem DOk.uok {s : Sa} (h : DOk s) : UOk s s.values.toNat := by
  have hv1 := h.v1
  have hv2 := h.v2
  refine ⟨by omega, by omega, fun v hv => ?_, ?_⟩
  · have := h.rng v hv; omega
  · have : (usesAll s).length ≤ s.parts.length * 10000 := flatMap_len_le (fun p hp => by
      have h0 := (h.ok p hp).1
      unfold PtOk at h0
      obtain ⟨l0, l1, l2, l3, l4⟩ := h0
      have e1 : (p.code.flatMap usesI).length ≤ p.code.length * 2 := flatMap_len_le (fun x _ => usesI_len x)
      have e2 : ∀ A : List (List Int), (∀ a ∈ A, a.length ≤ 300) → A.flatten.length ≤ A.length * 300 := by
        intro A
        induction A with
        | nil => intro _; simp
        | cons a t ih =>
          intro l4
          have := l4 a List.mem_cons_self
          have := ih (fun b hb => l4 b (List.mem_cons_of_mem _ hb))
          simp only [List.flatten_cons, List.length_append, List.length_cons, Nat.succ_mul]; omega
      have e2 := e2 p.args l4
      unfold partU endsS
      rw [List.length_append, List.length_append]
      have e3 : (if p.go == 2 || p.go == 5 then [p.test] else []).length ≤ 1 := by split <;> simp
      have e4 : p.args.length * 300 ≤ 10 * 300 := Nat.mul_le_mul_right _ l3
      omega)
    have e5 : s.parts.length * 10000 ≤ 11 * 10000 := Nat.mul_le_mul_right _ h.n
    omega
theorem DOk.usesAll_S {s : Sa} (h : DOk s) : usesAll s = s.parts.flatMap (fun p => p.code.flatMap usesS ++ endsS p) := by
  unfold usesAll
  have : ∀ l : List Pt, (∀ p ∈ l, p ∈ s.parts) → l.flatMap partU = l.flatMap (fun p => p.code.flatMap usesS ++ endsS p) := by
    intro l
    induction l with
    | nil => intro _; rfl
    | cons p t ih =>
      intro hl
      rw [List.flatMap_cons, List.flatMap_cons, ih (fun q hq => hl q (List.mem_cons_of_mem _ hq))]
      congr 1
      unfold partU
      congr 1
      have hp := hl p List.mem_cons_self
      have : ∀ c : List Fl, (∀ x ∈ c, x ∈ p.code) → c.flatMap usesI = c.flatMap usesS := by
        intro c
        induction c with
        | nil => intro _; rfl
        | cons x u ihc =>
          intro hc
          rw [List.flatMap_cons, List.flatMap_cons, ihc (fun y hy => hc y (List.mem_cons_of_mem _ hy)), (h.dst p hp x (hc x List.mem_cons_self)).1]
      exact this p.code (fun x hx => hx)
  exact this s.parts (fun p hp => hp)
theorem DOk.lim {s : Sa} (h : DOk s) : SaLim s := ⟨by have := h.n; omega, fun p hp => by
  have h0 := (h.ok p hp).1
  unfold PtOk at h0
  unfold PtLim
  exact ⟨by omega, by omega, by omega, by omega, fun a ha => by have := h0.2.2.2.2 a ha; omega⟩⟩
theorem DOk.ptsOk {s : Sa} (h : DOk s) : PtsOk s.parts := ⟨by have := h.n; omega, fun p hp => (h.ok p hp).1⟩
theorem dropTo_dok {s r : Sa} {m : Nat} (h : DropTo s r m) : m ≤ 4400 ∨ muS s > 4400 := by have := h.mu; omega
end Go.Proofs.YtnfaibenekninaaGreat.L

set_option linter.unusedVariables false
set_option linter.unusedSimpArgs false
namespace Go.Proofs.YtnfaibenekninaaGreat.L
open Go.RowKit
/-- A kind that is told by its cells alone. -/
structure Enc {α : Type} (r : Rp α) (enc : α → List Value) : Prop where
  len : ∀ x, (enc x).length = r.sz
  open_ : ∀ {w F x cs}, r.K w F x cs → cs = enc x
  mk_ : ∀ (w : World) (F : Nat → Prop) (x : α), r.K w F x (enc x)
def cellsE {α : Type} (enc : α → List Value) (l : List α) : List Value := l.flatMap enc
section
variable {α : Type} {r : Rp α} {enc : α → List Value}
theorem cellsE_len (h : Enc r enc) : ∀ l : List α, (cellsE enc l).length = l.length * r.sz
  | [] => by simp [cellsE]
  | x :: t => by
    have := cellsE_len h t
    unfold cellsE at this ⊢
    rw [List.flatMap_cons, List.length_append, this, h.len x, List.length_cons, Nat.succ_mul, Nat.add_comm]
theorem cellsE_append (a b : List α) : cellsE enc (a ++ b) = cellsE enc a ++ cellsE enc b := List.flatMap_append
theorem cellsE_split (h : Enc r enc) (l : List α) (i : Nat) : (cellsE enc l).take (i * r.sz) = cellsE enc (l.take i) ∧ (cellsE enc l).drop (i * r.sz) = cellsE enc (l.drop i) := by
  by_cases hi : i ≤ l.length
  · have e : cellsE enc l = cellsE enc (l.take i) ++ cellsE enc (l.drop i) := by rw [← cellsE_append, List.take_append_drop]
    have hl : (cellsE enc (l.take i)).length = i * r.sz := by rw [cellsE_len h, List.length_take, Nat.min_eq_left hi]
    rw [e, ← hl]
    exact ⟨List.take_left, List.drop_left⟩
  · have hl : (cellsE enc l).length ≤ i * r.sz := by rw [cellsE_len h]; exact Nat.mul_le_mul_right _ (by omega)
    rw [List.take_of_length_le hl, List.drop_of_length_le hl, List.take_of_length_le (by omega), List.drop_of_length_le (by omega)]
    exact ⟨rfl, rfl⟩
theorem cellsE_get (h : Enc r enc) {l : List α} {i : Nat} {x : α} (hx : l[i]? = some x) : ((cellsE enc l).drop (i * r.sz)).take r.sz = enc x := by
  rw [(cellsE_split h l i).2]
  obtain ⟨hi, rfl⟩ := List.getElem?_eq_some_iff.1 hx
  rw [List.drop_eq_getElem_cons hi, cellsE, List.flatMap_cons, ← h.len l[i], List.take_left]
theorem cellsE_of (h : Enc r enc) : ∀ (l : List α) (xs : List Value), xs.length = l.length * r.sz → (∀ i x, l[i]? = some x → (xs.drop (i * r.sz)).take r.sz = enc x) → xs = cellsE enc l
  | [], xs, hl, _ => by simpa [cellsE] using hl
  | x :: t, xs, hl, hx => by
    have h0 : xs.take r.sz = enc x := by have := hx 0 x rfl; simpa using this
    have ht := cellsE_of h t (xs.drop r.sz) (by rw [List.length_drop, hl, List.length_cons, Nat.succ_mul]; omega) (fun i y hy => by
      rw [List.drop_drop]
      have := hx (i + 1) y (by simpa using hy)
      rw [Nat.succ_mul, Nat.add_comm] at this
      exact this)
    rw [cellsE, List.flatMap_cons, ← h0]
    show xs = xs.take r.sz ++ cellsE enc t
    rw [← ht, List.take_append_drop]
theorem cellsE_one (h : Enc r enc) {l : List α} : ∀ u ∈ cellsE enc l, u.oneCell' = true := by
  intro u hu
  obtain ⟨x, _, hx⟩ := List.mem_flatMap.1 hu
  exact r.one (h.mk_ (default : World) (fun _ => True) x) u hx
/-- A row of one's own, told by its cells. -/
theorem owE_of {ap : Bool} {w : World} {F : Nat → Prop} {e g n c : Nat} {l : List α} {cur : Array Value} (h : Enc r enc) (hh : w.heap[g]? = some (.cells cur e (0, 0))) (hn : n = l.length) (hc : n ≤ c) (hm : c ≤ 9223372036854775807) (hsz : cur.size = c * r.sz) (ht : cur.toList.take (n * r.sz) = cellsE enc l) (hF : F g) :
    Ow ap e r w F (.slice (some ⟨g, 0, none⟩) n c) l := by
  subst hn
  exact ⟨fun _ _ => False, cellsE enc l, ⟨cellsE_len h l, .inr ⟨g, c, cur, rfl, Nat.zero_le _, hh, hc, by unfold maxLen; omega, hsz, ht⟩⟩, fun k hk => by simp [Value.ownBlock] at hk; subst hk; exact hF, fun _ _ h => h.elim, fun _ _ _ _ h => h.elim, fun i x hx => by
    rw [cellsE_get h hx]
    exact h.mk_ _ _ x⟩
theorem owE_to {ap : Bool} {w : World} {F : Nat → Prop} {e g n c : Nat} {l : List α} (h : Enc r enc) (hO : Ow ap e r w F (.slice (some ⟨g, 0, none⟩) n c) l) :
    ∃ cur, w.heap[g]? = some (.cells cur e (0, 0)) ∧ n = l.length ∧ n ≤ c ∧ c ≤ 9223372036854775807 ∧ cur.size = c * r.sz ∧ cur.toList.take (n * r.sz) = cellsE enc l ∧ F g := by
  obtain rfl := hO.len_eq
  obtain ⟨φ, xs, ⟨h1, h2⟩, h3, _, _, h5⟩ := hO
  rcases h2 with ⟨hh, _⟩ | ⟨g', cap, cur, he, _, hh, hc, hm, hsz, htk⟩
  · cases hh
  injection he with q1 q2 q3
  injection q1 with q1
  injection q1 with q1
  subst q1 q3
  refine ⟨cur, hh, rfl, hc, by unfold maxLen at hm; omega, hsz, ?_, h3 g (by simp [Value.ownBlock])⟩
  rw [htk]
  exact cellsE_of h l xs h1 (fun i x hx => h.open_ (h5 i x hx))
end
theorem seg_takeE (us : List Value) : ∀ (xs : List Value) (o : Nat), (seg xs o us).take o = xs.take o := by
  induction us with
  | nil => intro xs o; rfl
  | cons u us ih =>
    intro xs o
    have h := congrArg (List.take o) (ih (xs.set o u) (o + 1))
    rw [List.take_take, List.take_take, Nat.min_eq_left (Nat.le_succ o)] at h
    rw [seg, h, List.take_set_of_le (Nat.le_refl o)]
theorem setCells_row (g : Nat) : ∀ (vs : List Value) (o : Nat) (w : World), w.setCells g o vs = putRow w g o vs
  | [], _, _ => rfl
  | v :: r, o, w => setCells_row g r (o + 1) (w.setCell ⟨g, o, none⟩ v)
theorem setCells_at (g : Nat) (T : Nat) : ∀ (vs : List Value) (o : Nat) (w : World) (cur : Array Value), w.heap[g]? = some (.cells cur T (0, 0)) → o + vs.length ≤ cur.size →
    ∃ cur', (w.setCells g o vs).heap[g]? = some (.cells cur' T (0, 0)) ∧ cur'.size = cur.size ∧ cur'.toList = cur.toList.take o ++ (vs ++ cur.toList.drop (o + vs.length))
  | [], o, w, cur, h, hl => ⟨cur, h, rfl, by simp⟩
  | v :: r, o, w, cur, h, hl => by
    simp only [List.length_cons] at hl
    obtain ⟨cur', h1, h2, h3⟩ := setCells_at g T r (o + 1) (w.setCell ⟨g, o, none⟩ v) (cur.setIfInBounds o v) (heap_setCell_same w g o cur T v h) (by simp; omega)
    refine ⟨cur', h1, by rw [h2]; simp, ?_⟩
    have hlen : cur.toList.length = cur.size := Array.length_toList
    rw [h3, Array.toList_setIfInBounds, List.take_add_one, List.getElem?_set, if_pos rfl, if_pos (by omega), List.take_set_of_le (Nat.le_refl o), List.drop_set_of_lt (by omega)]
    simp [show o + 1 + r.length = o + (r.length + 1) by omega]
theorem putRow_chg (g : Nat) (vs : List Value) (o : Nat) (w : World) : Chg (fun q => q = g) w (putRow w g o vs) := by
  rw [← setCells_row]; exact setCells_chg g vs o w
/-- What is cut off a row is made zero. -/
theorem run_clearE {P : Program} (w : World) (t e ty : TypeId) (z : Value) (k : Nat) (ht : P.underlying t = some (.slice e)) (hv : ∀ w, (zeroValue e).run P w = .ok z w) (hz : z.cells.size = k) (hk : 0 < k) (h1 : ∀ u ∈ z.cells, u.oneCell' = true) (b o n c : Nat) (hn : 0 < n)
    (hc : ∀ j, j < n * k → (w.cell? ⟨b, o + j, none⟩).isSome = true) (hf : ∀ j, j < n * k → w.frozen? ⟨b, o + j, none⟩ = false) :
    ∃ zs : List Value, zs.length = n * k ∧ (Builtin.clear_ #[t] ty #[.slice (some ⟨b, o, none⟩) n c]).run P w = .ok (.tuple #[]) (putRow w b o zs) := by
  have hlen : (Builtin.zeroCells z.cells n).toList.length = n * k := by simp [Builtin.zeroCells, hz]
  refine ⟨(Builtin.zeroCells z.cells n).toList, hlen, ?_⟩
  have hst := run_storeCells_cells (P := P) b o (Builtin.zeroCells z.cells n).toList 0 w (by rw [hlen]; simpa using hc) (by rw [hlen]; simpa using hf) (by
    intro v hv'
    simp only [Builtin.zeroCells, Array.toList_map, List.mem_map] at hv'
    obtain ⟨i, _, rfl⟩ := hv'
    have hi : i % z.cells.size < z.cells.size := Nat.mod_lt _ (by omega)
    rw [getElem!_pos z.cells _ hi]
    exact h1 _ (Array.getElem_mem hi))
  simp only [Nat.add_zero] at hst
  obtain ⟨m, rfl⟩ : ∃ m, n = m + 1 := ⟨n - 1, by omega⟩
  rw [← setCells_row]
  simp [Builtin.clear_, run_underlying ht, hv, hst]
theorem erase_cells {α : Type} (l : List α) {i : Nat} (hi : i < l.length) : l.eraseIdx i = l.take i ++ l.drop (i + 1) := List.eraseIdx_eq_take_drop_succ l i
theorem encFl : Enc flat (fun x : Fl => [.int .i64 x.op, .int .i64 x.dO, .int .i64 x.dst, .int .i64 x.a, .int .i64 x.b, .int .i64 x.n]) := ⟨fun _ => rfl, fun h => flat_open h, fun w F x => flat_mk w F x⟩
theorem encInt : Enc Rp.int (fun x : Int => [.int .i64 x]) := ⟨fun _ => rfl, fun h => h, fun _ _ _ => rfl⟩
theorem zeroFlat (w : World) : (zeroValue 71).run Tryz.prog w = .ok (.agg #[.int .i64 0, .int .i64 0, .int .i64 0, .int .i64 0, .int .i64 0, .int .i64 0]) w := by
  obtain ⟨i, hi, hzz⟩ := Option.map_eq_some_iff.1 infoFlat
  simp only [Prod.mk.injEq] at hzz
  simp [zeroValue, typeInfo, hi, hzz.1]
end Go.Proofs.YtnfaibenekninaaGreat.L

set_option linter.unusedVariables false
set_option linter.unusedSimpArgs false
namespace Go.Proofs.YtnfaibenekninaaGreat.L
open Go.RowKit
set_option maxRecDepth 100000 in
set_option maxHeartbeats 8000000 in
theorem delFl_calls {F : Nat → Prop} (g c i : Nat) (l : List Fl) (w : World) (HO : Ow true 71 flat w F (.slice (some ⟨g, 0, none⟩) l.length c) l) (hi : i < l.length) (hl : l.length ≤ 1048576) :
    Calls Tryz.prog 127 #[.slice (some ⟨g, 0, none⟩) l.length c, .int .i64 i, .int .i64 ((i : Int) + 1)] w fun e w' =>
      e = .returned (.slice (some ⟨g, 0, none⟩) (l.length - 1) c) ∧ Ow true 71 flat w' F (.slice (some ⟨g, 0, none⟩) (l.length - 1) c) (l.eraseIdx i) ∧ Chg (fun q => q = g) w w' := by
  obtain ⟨cur, hh, _, hnc, hc63, hsz, htk, hF⟩ := owE_to encFl HO
  obtain ⟨i0, hi0, hzz⟩ := Option.map_eq_some_iff.1 infoFlat
  simp only [Prod.mk.injEq] at hzz
  obtain ⟨hz0, hz1, hz2⟩ := hzz
  have hz1 : i0.size = 6 := hz1
  have hcl : cur.toList.length = cur.size := Array.length_toList
  have hsz : cur.size = c * 6 := hsz
  have hEn : Enc flat _ := encFl
  obtain ⟨enc, henc⟩ : ∃ enc, enc = (fun x : Fl => [Value.int .i64 x.op, Value.int .i64 x.dO, Value.int .i64 x.dst, Value.int .i64 x.a, Value.int .i64 x.b, Value.int .i64 x.n]) := ⟨_, rfl⟩
  rw [← henc] at hEn htk
  obtain ⟨news, hnews⟩ : ∃ news, news = cellsE enc (l.drop (i + 1)) := ⟨_, rfl⟩
  have hnl : news.length = (l.length - (i + 1)) * 6 := by rw [hnews, cellsE_len hEn, List.length_drop]; rfl
  have hcell := (cell_of_block hh).1
  have hfz := (cell_of_block hh).2
  have htk : cur.toList.take (l.length * 6) = cellsE enc l := htk
  have hsd : (cellsE enc l).drop ((i + 1) * 6) = cellsE enc (l.drop (i + 1)) := (cellsE_split hEn l (i + 1)).2
  have hst : (cellsE enc l).take (i * 6) = cellsE enc (l.take i) := (cellsE_split hEn l i).1
  have hsrc0 : ∀ t u, news[t]? = some u → w.cell? ⟨g, (i + 1) * 6 + t, none⟩ = some u := by
    intro t u hu
    rw [hcell, ← Array.getElem?_toList]
    rw [hnews, ← hsd, ← htk, List.getElem?_drop, List.getElem?_take] at hu
    split at hu
    · exact hu
    · cases hu
  have hA : ∃ A : Addr, (if c = i + 1 then (some ⟨g, 0, none⟩ : Option Addr) else some ⟨g, (i + 1) * 6, none⟩) = some A ∧ Hid (∀ t u, news[t]? = some u → w.drew.cell? (A.add t) = some u) := by
    by_cases h : c = i + 1
    · refine ⟨⟨g, 0, none⟩, by rw [if_pos h], Lib.hid (fun t u hu => ?_)⟩
      have h0 : news.length = 0 := by omega
      rw [List.eq_nil_of_length_eq_zero h0] at hu
      simp at hu
    · refine ⟨⟨g, (i + 1) * 6, none⟩, by rw [if_neg h], Lib.hid (fun t u hu => ?_)⟩
      rw [Addr.add_lit]
      exact hsrc0 t u hu
  obtain ⟨A, hA, hsrc⟩ := hA
  have s2 : Hid (∀ u ∈ news, u.oneCell' = true) := Lib.hid (by rw [hnews]; exact cellsE_one hEn)
  have s3 : Hid (∀ t, t < news.length → (w.drew.cell? ⟨g, 0 + i * 6 + t, none⟩).isSome = true ∧ w.drew.frozen? ⟨g, 0 + i * 6 + t, none⟩ = false) := Lib.hid (fun t ht =>
    ⟨by show (w.cell? _).isSome = true; rw [hcell, Array.getElem?_eq_getElem (by omega)]; rfl, hfz _⟩)
  have s1 : Hid (news.length = (l.length - (i + 1)) * 6) := Lib.hid hnl
  obtain ⟨W1, hW1⟩ : ∃ W1, W1 = w.drew.setCells g (0 + i * 6) news := ⟨_, rfl⟩
  have hh' : w.drew.heap[g]? = some (.cells cur 71 (0, 0)) := hh
  obtain ⟨cur1, k1, k2, k3⟩ := setCells_at g 71 news (0 + i * 6) w.drew cur hh' (by omega)
  have hN1 : Chg (fun q => q = g) w W1 := by
    rw [hW1]
    exact (show Chg (fun q => q = g) w w.drew from ⟨rfl, rfl, rfl, Nat.le_refl _, fun _ _ _ => rfl⟩).trans (setCells_chg g _ _ _)
  rw [← hW1] at k1
  have hk1l : cur1.toList.length = cur1.size := Array.length_toList
  have hall : ∀ q, q < 1 * 6 → ∃ u, W1.cell? ⟨g, (l.length - 1) * 6 + q, none⟩ = some u ∧ W1.frozen? ⟨g, (l.length - 1) * 6 + q, none⟩ = false := fun q hq =>
    ⟨_, by rw [(cell_of_block k1).1]; exact Array.getElem?_eq_getElem (by omega), (cell_of_block k1).2 _⟩
  have hone : l.length - (l.length - 1) = 1 := by omega
  obtain ⟨zs, hzl, hcl2⟩ := run_clearE (P := Tryz.prog) W1 65 71 0 (.agg #[.int .i64 0, .int .i64 0, .int .i64 0, .int .i64 0, .int .i64 0, .int .i64 0]) 6 Tryz.underlying65 zeroFlat rfl (by omega) (by intro u hu; simp [Value.cells] at hu; rcases hu with rfl | rfl | rfl | rfl | rfl | rfl <;> rfl) g ((l.length - 1) * 6) 1 (c - (l.length - 1)) (by omega) (fun q hq => by obtain ⟨u, h, _⟩ := hall q hq; rw [h]; rfl) (fun q hq => (hall q hq).choose_spec.2)
  obtain ⟨cur2, m1, m2, m3⟩ := setCells_at g 71 zs ((l.length - 1) * 6) W1 cur1 k1 (by omega)
  rw [setCells_row] at m1
  have HOc : Ow true 71 flat (putRow W1 g ((l.length - 1) * 6) zs) F (.slice (some ⟨g, 0, none⟩) (l.length - 1) c) (l.eraseIdx i) := by
    have hel := List.length_eraseIdx_of_lt hi
    refine owE_of hEn m1 hel.symm (by omega) hc63 (by rw [m2, k2]; exact hsz) ?_ hF
    show cur2.toList.take ((l.length - 1) * 6) = _
    rw [erase_cells l hi, cellsE_append, ← hst, ← hsd, ← htk, m3, List.take_left' (by rw [List.length_take]; omega), k3, hnews, ← hsd, ← htk]
    simp only [Nat.zero_add]
    apply List.ext_getElem?
    intro j
    simp only [List.getElem?_take, List.getElem?_append, List.getElem?_drop, List.length_take, List.length_drop, List.length_append]
    repeat' split
    all_goals first | rfl | omega | (congr 1; omega) | (rw [List.getElem?_eq_none]; omega)
  have HNc := hN1.trans (putRow_chg g zs ((l.length - 1) * 6) W1)
  have HFIN := Lib.hid (And.intro HOc HNc)
  have HW := Lib.hid hW1
  have hk1 : i + (l.length - (i + 1)) = l.length - 1 := by omega
  have b0 : (0 : Int) ≤ (i : Int) := Int.natCast_nonneg _
  have b1 : (i : Int) ≤ (i : Int) + 1 := by omega
  have b2 : (i : Int) + 1 ≤ (l.length : Int) := by omega
  have b3 : (i : Int) ≤ (l.length : Int) := by omega
  have b5 : (0 : Int) ≤ (i : Int) + 1 := by omega
  have b6 : ((i : Int) == (i : Int) + 1) = false := by rw [beq_eq_false_iff_ne]; omega
  have b7 : ((i : Int) + 1).toNat = i + 1 := by omega
  have b8 : i ≤ c := by omega
  have b9 : i + 1 ≤ c := by omega
  have mixed : Tryz.prog.follows Departure.mixedOrders = true := by kernel_rfl
  clear hcell hfz hsrc0 hnl hnews hh hh' htk hsz hW1 k1 k2 k3 m1 m2 m3 hN1 hall HOc HNc HO hcl hsd hst henc hEn hk1l hzl
  go_enter Tryz.func127, Tryz.ntmps127
  go_wp2_with fail
  go_region_law_o (refine step_append_room rfl (.tmp 22) (.tmp 25) 65 rfl 71 i0 6 Tryz.underlying65 hi0 hz1 g 0 i c (by simp [Act.eval, Act.put]) A (l.length - (i + 1)) (c - (i + 1)) news (by simp [Act.eval, Act.put]) s1.out hsrc.out s2.out (by omega) s3.out ?_; rw [← HW.out])
  go_wp2
  go_ret
  exact ⟨rfl, HFIN.out⟩
set_option maxRecDepth 100000 in
set_option maxHeartbeats 8000000 in
theorem delInt_calls {F : Nat → Prop} (g c i : Nat) (l : List Int) (w : World) (HO : Ow true 3 Rp.int w F (.slice (some ⟨g, 0, none⟩) l.length c) l) (hi : i < l.length) (hl : l.length ≤ 1048576) :
    Calls Tryz.prog 150 #[.slice (some ⟨g, 0, none⟩) l.length c, .int .i64 i, .int .i64 ((i : Int) + 1)] w fun e w' =>
      e = .returned (.slice (some ⟨g, 0, none⟩) (l.length - 1) c) ∧ Ow true 3 Rp.int w' F (.slice (some ⟨g, 0, none⟩) (l.length - 1) c) (l.eraseIdx i) ∧ Chg (fun q => q = g) w w' := by
  obtain ⟨cur, hh, _, hnc, hc63, hsz, htk, hF⟩ := owE_to encInt HO
  obtain ⟨i0, hi0, hzz⟩ := Option.map_eq_some_iff.1 infoInt
  simp only [Prod.mk.injEq] at hzz
  obtain ⟨hz0, hz1, hz2⟩ := hzz
  have hz1 : i0.size = 1 := hz1
  have hcl : cur.toList.length = cur.size := Array.length_toList
  have hsz : cur.size = c * 1 := hsz
  have hEn : Enc Rp.int _ := encInt
  obtain ⟨enc, henc⟩ : ∃ enc, enc = (fun x : Int => [Value.int .i64 x]) := ⟨_, rfl⟩
  rw [← henc] at hEn htk
  obtain ⟨news, hnews⟩ : ∃ news, news = cellsE enc (l.drop (i + 1)) := ⟨_, rfl⟩
  have hnl : news.length = (l.length - (i + 1)) * 1 := by rw [hnews, cellsE_len hEn, List.length_drop]; rfl
  have hcell := (cell_of_block hh).1
  have hfz := (cell_of_block hh).2
  have htk : cur.toList.take (l.length * 1) = cellsE enc l := htk
  have hsd : (cellsE enc l).drop ((i + 1) * 1) = cellsE enc (l.drop (i + 1)) := (cellsE_split hEn l (i + 1)).2
  have hst : (cellsE enc l).take (i * 1) = cellsE enc (l.take i) := (cellsE_split hEn l i).1
  have hsrc0 : ∀ t u, news[t]? = some u → w.cell? ⟨g, (i + 1) * 1 + t, none⟩ = some u := by
    intro t u hu
    rw [hcell, ← Array.getElem?_toList]
    rw [hnews, ← hsd, ← htk, List.getElem?_drop, List.getElem?_take] at hu
    split at hu
    · exact hu
    · cases hu
  have hA : ∃ A : Addr, (if c = i + 1 then (some ⟨g, 0, none⟩ : Option Addr) else some ⟨g, i + 1, none⟩) = some A ∧ Hid (∀ t u, news[t]? = some u → w.drew.cell? (A.add t) = some u) := by
    by_cases h : c = i + 1
    · refine ⟨⟨g, 0, none⟩, by rw [if_pos h], Lib.hid (fun t u hu => ?_)⟩
      have h0 : news.length = 0 := by omega
      rw [List.eq_nil_of_length_eq_zero h0] at hu
      simp at hu
    · refine ⟨⟨g, (i + 1) * 1, none⟩, by rw [if_neg h, Nat.mul_one], Lib.hid (fun t u hu => ?_)⟩
      rw [Addr.add_lit]
      exact hsrc0 t u hu
  obtain ⟨A, hA, hsrc⟩ := hA
  have s2 : Hid (∀ u ∈ news, u.oneCell' = true) := Lib.hid (by rw [hnews]; exact cellsE_one hEn)
  have s3 : Hid (∀ t, t < news.length → (w.drew.cell? ⟨g, 0 + i * 1 + t, none⟩).isSome = true ∧ w.drew.frozen? ⟨g, 0 + i * 1 + t, none⟩ = false) := Lib.hid (fun t ht =>
    ⟨by show (w.cell? _).isSome = true; rw [hcell, Array.getElem?_eq_getElem (by omega)]; rfl, hfz _⟩)
  have s1 : Hid (news.length = (l.length - (i + 1)) * 1) := Lib.hid hnl
  obtain ⟨W1, hW1⟩ : ∃ W1, W1 = w.drew.setCells g (0 + i * 1) news := ⟨_, rfl⟩
  have hh' : w.drew.heap[g]? = some (.cells cur 3 (0, 0)) := hh
  obtain ⟨cur1, k1, k2, k3⟩ := setCells_at g 3 news (0 + i * 1) w.drew cur hh' (by omega)
  have hN1 : Chg (fun q => q = g) w W1 := by
    rw [hW1]
    exact (show Chg (fun q => q = g) w w.drew from ⟨rfl, rfl, rfl, Nat.le_refl _, fun _ _ _ => rfl⟩).trans (setCells_chg g _ _ _)
  rw [← hW1] at k1
  have hk1l : cur1.toList.length = cur1.size := Array.length_toList
  have hall : ∀ q, q < 1 * 1 → ∃ u, W1.cell? ⟨g, (l.length - 1) * 1 + q, none⟩ = some u ∧ W1.frozen? ⟨g, (l.length - 1) * 1 + q, none⟩ = false := fun q hq =>
    ⟨_, by rw [(cell_of_block k1).1]; exact Array.getElem?_eq_getElem (by omega), (cell_of_block k1).2 _⟩
  have hone : l.length - (l.length - 1) = 1 := by omega
  obtain ⟨zs, hzl, hcl2⟩ := run_clearE (P := Tryz.prog) W1 59 3 0 (.int .i64 0) 1 Tryz.underlying59 zeroInt rfl (by omega) (by intro u hu; simp [Value.cells] at hu; subst hu; rfl) g ((l.length - 1) * 1) 1 (c - (l.length - 1)) (by omega) (fun q hq => by obtain ⟨u, h, _⟩ := hall q hq; rw [h]; rfl) (fun q hq => (hall q hq).choose_spec.2)
  obtain ⟨cur2, m1, m2, m3⟩ := setCells_at g 3 zs ((l.length - 1) * 1) W1 cur1 k1 (by omega)
  rw [setCells_row] at m1
  have HOc : Ow true 3 Rp.int (putRow W1 g ((l.length - 1) * 1) zs) F (.slice (some ⟨g, 0, none⟩) (l.length - 1) c) (l.eraseIdx i) := by
    have hel := List.length_eraseIdx_of_lt hi
    refine owE_of hEn m1 hel.symm (by omega) hc63 (by rw [m2, k2]; exact hsz) ?_ hF
    show cur2.toList.take ((l.length - 1) * 1) = _
    rw [erase_cells l hi, cellsE_append, ← hst, ← hsd, ← htk, m3, List.take_left' (by rw [List.length_take]; omega), k3, hnews, ← hsd, ← htk]
    simp only [Nat.zero_add]
    apply List.ext_getElem?
    intro j
    simp only [List.getElem?_take, List.getElem?_append, List.getElem?_drop, List.length_take, List.length_drop, List.length_append]
    repeat' split
    all_goals first | rfl | omega | (congr 1; omega) | (rw [List.getElem?_eq_none]; omega)
  have HNc := hN1.trans (putRow_chg g zs ((l.length - 1) * 1) W1)
  simp only [Nat.mul_one] at HOc HNc hcl2
  have HFIN := Lib.hid (And.intro HOc HNc)
  have HW := Lib.hid hW1
  have hk1 : i + (l.length - (i + 1)) = l.length - 1 := by omega
  have b0 : (0 : Int) ≤ (i : Int) := Int.natCast_nonneg _
  have b1 : (i : Int) ≤ (i : Int) + 1 := by omega
  have b2 : (i : Int) + 1 ≤ (l.length : Int) := by omega
  have b3 : (i : Int) ≤ (l.length : Int) := by omega
  have b5 : (0 : Int) ≤ (i : Int) + 1 := by omega
  have b6 : ((i : Int) == (i : Int) + 1) = false := by rw [beq_eq_false_iff_ne]; omega
  have b7 : ((i : Int) + 1).toNat = i + 1 := by omega
  have b8 : i ≤ c := by omega
  have b9 : i + 1 ≤ c := by omega
  have mixed : Tryz.prog.follows Departure.mixedOrders = true := by kernel_rfl
  clear hcell hfz hsrc0 hnl hnews hh hh' htk hsz hW1 k1 k2 k3 m1 m2 m3 hN1 hall HOc HNc HO hcl hsd hst henc hEn hk1l hzl
  go_enter Tryz.func150, Tryz.ntmps150
  go_wp2_with fail
  go_region_law_o (refine step_append_room rfl (.tmp 22) (.tmp 25) 59 rfl 3 i0 1 Tryz.underlying59 hi0 hz1 g 0 i c (by simp [Act.eval, Act.put]) A (l.length - (i + 1)) (c - (i + 1)) news (by simp [Act.eval, Act.put]) s1.out hsrc.out s2.out (by omega) s3.out ?_; rw [← HW.out])
  go_wp2
  go_ret
  exact ⟨rfl, HFIN.out⟩
end Go.Proofs.YtnfaibenekninaaGreat.L

set_option linter.unusedVariables false
set_option linter.unusedSimpArgs false
namespace Go.Proofs.YtnfaibenekninaaGreat.L
open Go.RowKit
set_option maxRecDepth 100000 in
set_option maxHeartbeats 4000000 in
theorem used_calls {F : Nat → Prop} {s : Sa} {N : Nat} (hk : UOk s N) (sb : Nat) (vparts : Value) (w : World) (hsb : w.heap[sb]? = some (.cells #[vparts, .int .i64 s.values] 28 (0, 0))) (hs : Rp.Rd part w F vparts s.parts)
    (hx1 : s.parts.length ≤ 1048576) (hx2 : ∀ p ∈ s.parts, PtLim p) :
    Calls Tryz.prog 123 #[.pointer (some ⟨sb, 0, none⟩)] w fun e w' => ∃ v', e = .returned v' ∧ Ow true 3 Rp.int w' (fun q => w.heap.size ≤ q) v' (cntL N (usesAll s)) ∧ Below w.heap.size w w' := by
  replace hs := hs.bound
  have hV := hk.V
  have hN := hk.le
  have hsl := blk_lt hsb
  rw [← hV] at hsb
  obtain ⟨z0, _⟩ := cell_of_block hsb
  have y1 : w.cell? ⟨sb, 1, none⟩ = some (.int .i64 (N : Int)) := (z0 1).trans rfl
  clear z0
  have j0 : (0 : Int) ≤ (N : Int) := Int.natCast_nonneg _
  have j1 : (N : Int) ≤ 250 := by omega
  have HC := Lib.hid (fun (g bx : Nat) (W : World) (hW : Below w.heap.size w W) (hg : w.heap.size ≤ g) (hbx : bx ≠ g) h2 h3 => uses_calls hk g N bx sb vparts W (by rw [← hV]; exact blk_below hsb hW) (hs.below hW) (fun q hq => by have := hq.2; omega) (by omega) hbx h2 h3 hx1 hx2)
  clear hV
  have hmk := mk_all Tryz.underlying59 infoInt N (by omega) (by omega)
  go_enter Tryz.func123, Tryz.ntmps123
  go_wp2_with fail
  have hB1 : Below w.heap.size w (w.alloc (.cells (madeCells #[.int .i64 0] N) 3)) := below_new _
  have b1 := heap_alloc_new w (.cells (madeCells #[.int .i64 0] N) 3)
  have hs1 : (w.alloc (.cells (madeCells #[.int .i64 0] N) 3)).heap.size = w.heap.size + 1 := by simp
  have hB2 := hB1.alloc hB1.size (.cells #[.slice (some ⟨w.heap.size, 0, none⟩) N N] 59)
  have b2 := blk_alloc b1 (.cells #[.slice (some ⟨w.heap.size, 0, none⟩) N N] 59)
  have b3 := heap_alloc_new (w.alloc (.cells (madeCells #[.int .i64 0] N) 3)) (.cells #[.slice (some ⟨w.heap.size, 0, none⟩) N N] 59)
  rw [hs1] at b3
  have hO := ow_zero b2 (by omega)
  have hne : w.heap.size + 1 ≠ w.heap.size := by omega
  generalize (w.alloc (.cells (madeCells #[.int .i64 0] N) 3)).alloc (.cells #[.slice (some ⟨w.heap.size, 0, none⟩) N N] 59) = W2 at *
  refine (HC.out w.heap.size (w.heap.size + 1) W2 hB2 (Nat.le_refl _) hne b3 hO).mono ?_
  rintro e w3 ⟨rfl, HO, hCh⟩
  have b4 := hCh.blk b3 hne
  have hB3 := hCh.to_below hB2 hB2.size (fun q hq => by have hq : q = w.heap.size := hq; omega)
  obtain ⟨z0, _⟩ := cell_of_block b4
  have y3 : w3.cell? ⟨w.heap.size + 1, 0, none⟩ = some (.slice (some ⟨w.heap.size, 0, none⟩) N N) := (z0 0).trans rfl
  clear z0 HC hO hmk
  go_wp2
  go_ret
  exact ⟨_, rfl, HO.mono (fun q hq => by have hq : q = w.heap.size := hq; omega), hB3⟩
end Go.Proofs.YtnfaibenekninaaGreat.L

set_option linter.unusedVariables false
set_option linter.unusedSimpArgs false
namespace Go.Proofs.YtnfaibenekninaaGreat.L
open Go.RowKit
theorem oper_append {P : Program} {o : Oper} {a : Act} {W W' : World} {K : Act → World → Prop} {Q : Exit → Act → World → Prop} (s x : Operand) (t : TypeId) (v vx v' : Value)
    (ho : o.op = .call { callee := .builtin .append, args := #[s, x], argTypes := #[t, t] }) (hs : a.eval s = v) (hx : a.eval x = vx) (hr : (Builtin.append_ #[t, t] o.type #[v, vx]).run P W = .ok v' W') (h : K (a.put o.dst v') W') : Oper.wp P o a W K Q := by
  unfold Oper.wp execOp
  simp only [ho, resolve, invoke, builtin, Sem.run_bind, Sem.run_pure, Result.andThen_ok, List.map_toArray, List.map_cons, List.map_nil, hs, hx, hr]
  exact h
end Go.Proofs.YtnfaibenekninaaGreat.L

set_option linter.unusedVariables false
set_option linter.unusedSimpArgs false
namespace Go.Proofs.YtnfaibenekninaaGreat.L
open Go.RowKit
theorem run_ap1 {P : Program} {α : Type} {ap : Bool} {e : Nat} {r : Rp α} {W : World} {F G : Nat → Prop} (t ty : TypeId) (z : Value) (bytes : Nat) (ht : P.underlying t = some (.slice e)) (hinfo : (P.info? e).map (fun i => (i.zero, i.size, i.bytes)) = some (some z, r.sz, bytes)) (hz : z.cells.size = r.sz) (hsz : 0 < r.sz) (hb0 : 0 < bytes)
    (v : Value) (l : List α) (y : α) (us : List Value) (bx : Nat) (hbx : W.heap[bx]? = some (.cells us.toArray e (0, 0))) (HO : Ow ap e r W F v l) (hy : r.K W G y us) (hG : ∀ k, G k → ¬ F k) (hl : (l.length + 1) * bytes ≤ 140737488355328) :
    ∃ v' W', (Builtin.append_ #[t, t] ty #[v, .slice (some ⟨bx, 0, none⟩) 1 1]).run P W = .ok v' W' ∧ Ow ap e r W' (fun k => F k ∨ G k ∨ W.heap.size ≤ k) v' (l ++ [y]) ∧ W.grownBy W' v.ownBlock := by
  obtain ⟨i0, hi, hzz⟩ := Option.map_eq_some_iff.1 hinfo
  simp only [Prod.mk.injEq] at hzz
  obtain ⟨hz0, hz1, hz2⟩ := hzz
  obtain ⟨xs, hown⟩ := HO.owns
  have hlen : l.length + 1 ≤ 140737488355328 := Nat.le_trans (Nat.le_mul_of_pos_right _ hb0) hl
  have hus : us.length = r.sz := r.len hy
  obtain ⟨v1, w1, hr, hown1, hg, hnl, hat⟩ := run_append_own_at (P := P) W 0 t ty e i0 z r.sz bytes ht hi hz0 hz1 hz2 hz hsz v l.length xs hown ⟨bx, 0, none⟩ 1 1 us (by rw [hus, Nat.one_mul])
    (fun j u hu => World.news_of_block (cs := us.toArray) (t := e) (fr := (0, 0)) hbx j u (by simpa using hu)) (r.one hy) (by unfold maxLen; omega) hl (Nat.zero_le _)
  have hat' : v1.ownBlock = v.ownBlock ∨ ∃ b, v1.ownBlock = some b ∧ W.heap.size ≤ b := by
    rcases hat with hat | hat
    · exact .inl hat
    · exact .inr ⟨_, hat, Nat.le_refl _⟩
  refine ⟨v1, w1, hr, ?_, hg⟩
  refine Ow.snoc (w := W) (m := 1) (ys := [y]) (news := us) HO rfl (fun zs hzs => by rw [owns_unique hzs hown]; exact hown1) hg hat' (fun i k => i = 0 ∧ G k) (fun i y' hy' => ?_) (fun i k hk => ⟨hG k hk.2, .inr (.inl hk.2)⟩) (fun _ i j k hi hj => by omega) (fun k hk => .inl hk) (fun k hk => .inr (.inr hk))
  match i, hy' with
  | 0, hy' =>
    simp only [List.getElem?_cons_zero, Option.some.injEq] at hy'
    subst hy'
    rw [Nat.zero_mul, List.drop_zero, List.take_of_length_le (by omega)]
    exact r.mono (fun k hk => ⟨rfl, hk⟩) hy
  | i + 1, hy' => simp at hy'
end Go.Proofs.YtnfaibenekninaaGreat.L

set_option linter.unusedVariables false
set_option linter.unusedSimpArgs false
namespace Go.Proofs.YtnfaibenekninaaGreat.L
open Go.RowKit
end Go.Proofs.YtnfaibenekninaaGreat.L

set_option linter.unusedVariables false
set_option linter.unusedSimpArgs false
namespace Go.Proofs.YtnfaibenekninaaGreat.L
open Go.RowKit
theorem Chg.trans2 {A B : Nat → Prop} {w w1 w2 : World} (h : Chg A w w1) (k : Chg B w1 w2) (hB : ∀ q, B q → A q ∨ w.heap.size ≤ q) : Chg A w w2 :=
  ⟨k.os.trans h.os, k.tape.trans h.tape, k.output.trans h.output, Nat.le_trans h.size k.size, fun q hq hA => (k.block q (Nat.lt_of_lt_of_le hq h.size) (fun hb => by rcases hB q hb with h1 | h1; exact hA h1; omega)).trans (h.block q hq hA)⟩
theorem Chg.of_grown {w w1 : World} {row : Option Nat} (h : w.grownBy w1 row) : Chg (fun q => some q = row) w w1 := ⟨h.os, h.tape, h.output, h.size, fun q hq hn => h.block q hq hn⟩
/-- An ssa of one's own behind a pointer. -/
structure SeS (V : Int) (sb : Nat) (FO : Nat → Prop) (cur : List Pt) (Ap : Option Addr) (cp : Nat) (w : World) : Prop where
  hb : w.heap[sb]? = some (.cells #[.slice Ap cur.length cp, .int .i64 V] 28 (0, 0))
  ow : Ow true 67 partA w FO (.slice Ap cur.length cp) cur
theorem SeS.below {V : Int} {sb : Nat} {FO : Nat → Prop} {cur : List Pt} {Ap : Option Addr} {cp : Nat} {w w' : World} (h : SeS V sb FO cur Ap cp w) (hB : Below w.heap.size w w') : SeS V sb FO cur Ap cp w' := ⟨blk_below h.hb hB, h.ow.below hB⟩
/-- A part just made, with the one edge that it has. -/
structure NewP (wo wx : World) (nb ab eb : Nat) (tw : Int) (u : Value) : Prop where
  bw : Below wo.heap.size wo wx
  n0 : wx.heap[nb]? = some (.cells #[.int .i64 tw] 3 (0, 0))
  a0 : wx.heap[ab]? = some (.cells #[u] 59 (0, 0))
  e0 : wx.heap[eb]? = some (.cells #[.slice none 0 0, .slice none 0 0, .int .i64 1, .int .i64 0, .slice (some ⟨nb, 0, none⟩) 1 1, .slice (some ⟨ab, 0, none⟩) 1 1] 67 (0, 0))
  ge : wo.heap.size ≤ nb ∧ wo.heap.size ≤ ab ∧ wo.heap.size ≤ eb
  ne : nb ≠ ab ∧ nb ≠ eb ∧ ab ≠ eb
end Go.Proofs.YtnfaibenekninaaGreat.L

set_option linter.unusedVariables false
set_option linter.unusedSimpArgs false
namespace Go.Proofs.YtnfaibenekninaaGreat.L
open Go.RowKit
theorem Chg.froz {A : Nat → Prop} {w w1 : World} (h : Chg A w w1) {g o : Nat} (hg : g < w.heap.size) (hA : ¬ A g) : w1.frozen? ⟨g, o, none⟩ = w.frozen? ⟨g, o, none⟩ := by simp [World.frozen?, h.block g hg hA]
section
variable {F : Nat → Prop} {g n c : Nat} {L : List Pt} {w : World} {k : Nat}
theorem ow_read (HO : Ow true 67 partA w F (.slice (some ⟨g, 0, none⟩) n c) L) (hk : k < L.length) :
    ∃ vp vc vn va, partAt w g (k * 6) L[k] vp vc vn va ∧ Rp.Rd Rp.int w F vp L[k].params ∧ Rp.Rd flat w F vc L[k].code ∧ Rp.Rd Rp.int w F vn L[k].next ∧ Rp.Rd (Rp.sl Rp.int) w F va L[k].args := by
  obtain ⟨Fr, Gk, us, hFr, hGk, hK, H⟩ := HO.hole hk
  obtain ⟨G0, G1, G2, G3, e0, e1, e2, e3, _, _, _, _, _, _, vp, vc, vn, va, rfl, k0, k1, k2, k3⟩ := partA_open hK
  exact ⟨vp, vc, vn, va, ⟨H.cell0 partA_sz rfl, H.cellj 1 partA_sz rfl, H.cellj 2 partA_sz rfl, H.cellj 3 partA_sz rfl, H.cellj 4 partA_sz rfl, H.cellj 5 partA_sz rfl⟩,
    k0.rd.mono (fun q hq => (hGk q (e0 q hq)).1), k1.rd.mono (fun q hq => (hGk q (e1 q hq)).1), k2.rd.mono (fun q hq => (hGk q (e2 q hq)).1), ((Rp.Le.ow (Rp.Le.refl Rp.int)).rd k3.rd).mono (fun q hq => (hGk q (e3 q hq)).1)⟩
theorem ow_code (HO : Ow true 67 partA w F (.slice (some ⟨g, 0, none⟩) n c) L) (hk : k < L.length) :
    ∃ (vc : Value) (G : Nat → Prop), w.cell? ⟨g, k * 6 + 1, none⟩ = some vc ∧ (∀ o, w.frozen? ⟨g, o, none⟩ = false) ∧ Ow true 71 flat w G vc L[k].code ∧ (∀ q, G q → F q ∧ q ≠ g ∧ q < w.heap.size) ∧ (F g ∧ g < w.heap.size) ∧
    ∀ (w' : World) (G' : Nat → Prop) (vc' : Value) (l' : List Fl), Chg G w w' → Ow true 71 flat w' G' vc' l' → (∀ q, G' q → G q ∨ w.heap.size ≤ q) →
      Ow true 67 partA (w'.setCell ⟨g, k * 6 + 1, none⟩ vc') (fun q => F q ∨ G' q) (.slice (some ⟨g, 0, none⟩) n c) (L.set k { L[k] with code := l' }) := by
  obtain ⟨Fr, Gk, us, hFr, hGk, hK, H⟩ := HO.bound.hole hk
  obtain ⟨G0, G1, G2, G3, e0, e1, e2, e3, d01, d02, d03, d12, d13, d23, vp, vc, vn, va, rfl, k0, k1, k2, k3⟩ := partA_open hK
  have hgs := hFr g H.lt.1
  refine ⟨vc, G1, H.cellj 1 partA_sz rfl, H.free, k1, fun q hq => ⟨(hGk q (e1 q hq)).1.1, (hGk q (e1 q hq)).2.2, (hGk q (e1 q hq)).1.2⟩, hgs, fun w' G' vc' l' hC hO' hG' => ?_⟩
  have hS := Chg.set (A := fun q => q = g) (w := w') (b := g) (o := k * 6 + 1) (u := vc') rfl
  have ne : ∀ q, Gk q → q ≠ g := fun q hq => (hGk q hq).2.2
  have lt : ∀ q, Gk q → q < w.heap.size := fun q hq => (hGk q hq).1.2
  have hG'n : ∀ q, G' q → q ≠ g := fun q hq => by
    rcases hG' q hq with h | h
    · exact ne q (e1 q h)
    · have := hgs.2; omega
  have m0 := (k0.move (hC.same (fun q hq h => d01 q hq h))).move (hS.same (fun q hq h => ne q (e0 q hq) h))
  have m2 := (k2.move (hC.same (fun q hq h => d12 q h hq))).move (hS.same (fun q hq h => ne q (e2 q hq) h))
  have m3 := (k3.move (hC.same (fun q hq h => d13 q h hq))).move (hS.same (fun q hq h => ne q (e3 q hq) h))
  have m1 := hO'.move (hS.same (fun q hq h => hG'n q hq h))
  have H2 := (H.chg hC (fun q hq h => (hGk q (e1 q hq)).2.1 h)).setj partA_sz (j := 1) (by decide) vc'
  have dis : ∀ q, G' q → ∀ G : Nat → Prop, (∀ q, G q → Gk q) → (∀ q, G1 q → ¬ G q) → ¬ G q := fun q hq G hGG h1 h => by
    rcases hG' q hq with h' | h'
    · exact h1 q h' h
    · have := lt q (hGG q h); omega
  have hK' := partA_mk (F := fun q => Gk q ∨ G' q) (x := { L[k] with code := l' }) (fun q hq => .inl (e0 q hq)) (fun q hq => .inr hq) (fun q hq => .inl (e2 q hq)) (fun q hq => .inl (e3 q hq))
    (fun q h h' => dis q h' G0 e0 (fun q h1 h0 => d01 q h0 h1) h) d02 d03 (fun q h h' => dis q h G2 e2 d12 h') (fun q h h' => dis q h G3 e3 d13 h') d23 m0 m1 m2 m3
  refine (H2.close hK' (fun q hq h => ?_)).mono (fun q hq => ?_)
  · rcases hq with hq | hq
    · exact (hGk q hq).2.1 h
    · rcases hG' q hq with h' | h'
      · exact (hGk q (e1 q h')).2.1 h
      · have := (hFr q h).2; omega
  · rcases hq with hq | hq | hq
    · exact .inl (hFr q hq).1
    · exact .inl (hGk q hq).1.1
    · exact .inr hq
theorem ow_params (HO : Ow true 67 partA w F (.slice (some ⟨g, 0, none⟩) n c) L) (hk : k < L.length) :
    ∃ (vc : Value) (G : Nat → Prop), w.cell? ⟨g, k * 6, none⟩ = some vc ∧ (∀ o, w.frozen? ⟨g, o, none⟩ = false) ∧ Ow true 3 Rp.int w G vc L[k].params ∧ (∀ q, G q → F q ∧ q ≠ g ∧ q < w.heap.size) ∧ (F g ∧ g < w.heap.size) ∧
    ∀ (w' : World) (G' : Nat → Prop) (vc' : Value) (l' : List Int), Chg G w w' → Ow true 3 Rp.int w' G' vc' l' → (∀ q, G' q → G q ∨ w.heap.size ≤ q) →
      Ow true 67 partA (w'.setCell ⟨g, k * 6, none⟩ vc') (fun q => F q ∨ G' q) (.slice (some ⟨g, 0, none⟩) n c) (L.set k { L[k] with params := l' }) := by
  obtain ⟨Fr, Gk, us, hFr, hGk, hK, H⟩ := HO.bound.hole hk
  obtain ⟨G0, G1, G2, G3, e0, e1, e2, e3, d01, d02, d03, d12, d13, d23, vp, vc, vn, va, rfl, k0, k1, k2, k3⟩ := partA_open hK
  have hgs := hFr g H.lt.1
  refine ⟨vp, G0, H.cell0 partA_sz rfl, H.free, k0, fun q hq => ⟨(hGk q (e0 q hq)).1.1, (hGk q (e0 q hq)).2.2, (hGk q (e0 q hq)).1.2⟩, hgs, fun w' G' vc' l' hC hO' hG' => ?_⟩
  have hS := Chg.set (A := fun q => q = g) (w := w') (b := g) (o := k * 6) (u := vc') rfl
  have ne : ∀ q, Gk q → q ≠ g := fun q hq => (hGk q hq).2.2
  have lt : ∀ q, Gk q → q < w.heap.size := fun q hq => (hGk q hq).1.2
  have hG'n : ∀ q, G' q → q ≠ g := fun q hq => by
    rcases hG' q hq with h | h
    · exact ne q (e0 q h)
    · have := hgs.2; omega
  have m1 := (k1.move (hC.same (fun q hq h => d01 q h hq))).move (hS.same (fun q hq h => ne q (e1 q hq) h))
  have m2 := (k2.move (hC.same (fun q hq h => d02 q h hq))).move (hS.same (fun q hq h => ne q (e2 q hq) h))
  have m3 := (k3.move (hC.same (fun q hq h => d03 q h hq))).move (hS.same (fun q hq h => ne q (e3 q hq) h))
  have m0 := hO'.move (hS.same (fun q hq h => hG'n q hq h))
  have H2 := (H.chg hC (fun q hq h => (hGk q (e0 q hq)).2.1 h)).set0 partA_sz (by decide) vc'
  have dis : ∀ q, G' q → ∀ G : Nat → Prop, (∀ q, G q → Gk q) → (∀ q, G0 q → ¬ G q) → ¬ G q := fun q hq G hGG h1 h => by
    rcases hG' q hq with h' | h'
    · exact h1 q h' h
    · have := lt q (hGG q h); omega
  have hK' := partA_mk (F := fun q => Gk q ∨ G' q) (x := { L[k] with params := l' }) (fun q hq => .inr hq) (fun q hq => .inl (e1 q hq)) (fun q hq => .inl (e2 q hq)) (fun q hq => .inl (e3 q hq))
    (fun q h h' => dis q h G1 e1 d01 h') (fun q h h' => dis q h G2 e2 d02 h') (fun q h h' => dis q h G3 e3 d03 h') d12 d13 d23 m0 m1 m2 m3
  refine (H2.close hK' (fun q hq h => ?_)).mono (fun q hq => ?_)
  · rcases hq with hq | hq
    · exact (hGk q hq).2.1 h
    · rcases hG' q hq with h' | h'
      · exact (hGk q (e0 q h')).2.1 h
      · have := (hFr q h).2; omega
  · rcases hq with hq | hq | hq
    · exact .inl (hFr q hq).1
    · exact .inl (hGk q hq).1.1
    · exact .inr hq
theorem ow_arg {i : Nat} (HO : Ow true 67 partA w F (.slice (some ⟨g, 0, none⟩) n c) L) (hk : k < L.length) (hi : i < L[k].args.length) :
    ∃ (ga ca : Nat) (u : Value) (G : Nat → Prop), w.cell? ⟨g, k * 6 + 5, none⟩ = some (.slice (some ⟨ga, 0, none⟩) L[k].args.length ca) ∧ w.cell? ⟨ga, i, none⟩ = some u ∧ (∀ o, w.frozen? ⟨ga, o, none⟩ = false) ∧ Ow true 3 Rp.int w G u L[k].args[i] ∧ (∀ q, G q → F q ∧ q ≠ ga ∧ q ≠ g ∧ q < w.heap.size) ∧ (F ga ∧ ga < w.heap.size ∧ ga ≠ g) ∧
    ∀ (w' : World) (G' : Nat → Prop) (u' : Value) (l' : List Int), Chg G w w' → Ow true 3 Rp.int w' G' u' l' → (∀ q, G' q → G q ∨ w.heap.size ≤ q) →
      Ow true 67 partA (w'.setCell ⟨ga, i, none⟩ u') (fun q => F q ∨ G' q) (.slice (some ⟨g, 0, none⟩) n c) (L.set k { L[k] with args := L[k].args.set i l' }) := by
  obtain ⟨Fr, Gk, us, hFr, hGk, hK, H⟩ := HO.bound.hole hk
  obtain ⟨G0, G1, G2, G3, e0, e1, e2, e3, d01, d02, d03, d12, d13, d23, vp, vc, vn, va, rfl, k0, k1, k2, k3⟩ := partA_open hK
  have hgs := hFr g H.lt.1
  obtain ⟨ga, ca, rfl, _, _⟩ := Ow.some_form k3 (by omega)
  obtain ⟨Fr4, Gk4, us4, hFr4, hGk4, hK4, H4⟩ := k3.hole hi
  obtain ⟨u, rfl, hOu⟩ := hK4
  have ne : ∀ q, Gk q → q ≠ g := fun q hq => (hGk q hq).2.2
  have lt : ∀ q, Gk q → q < w.heap.size := fun q hq => (hGk q hq).1.2
  have hga3 : G3 ga := hFr4 ga H4.lt.1
  have hga := e3 ga hga3
  have G4k : ∀ q, Gk4 q → Gk q := fun q hq => e3 q (hGk4 q hq).1
  refine ⟨ga, ca, u, Gk4, H.cellj 5 partA_sz rfl, H4.cell1 rfl rfl, H4.free, hOu, fun q hq => ⟨(hGk q (G4k q hq)).1.1, (hGk4 q hq).2.2, ne q (G4k q hq), lt q (G4k q hq)⟩, ⟨(hGk ga hga).1.1, lt ga hga, ne ga hga⟩, fun w' G' u' l' hC hO' hG' => ?_⟩
  have hS := Chg.set (A := fun q => q = ga) (w := w') (b := ga) (o := i) (u := u') rfl
  have hG'n : ∀ q, G' q → q ≠ ga := fun q hq => by
    rcases hG' q hq with h | h
    · exact (hGk4 q h).2.2
    · have := lt ga hga; omega
  have m0 := (k0.move (hC.same (fun q hq h => d03 q hq (hGk4 q h).1))).move (hS.same (fun q hq h => by subst h; exact d03 q hq hga3))
  have m1 := (k1.move (hC.same (fun q hq h => d13 q hq (hGk4 q h).1))).move (hS.same (fun q hq h => by subst h; exact d13 q hq hga3))
  have m2 := (k2.move (hC.same (fun q hq h => d23 q hq (hGk4 q h).1))).move (hS.same (fun q hq h => by subst h; exact d23 q hq hga3))
  have mu := hO'.move (hS.same (fun q hq h => hG'n q hq h))
  have H4' := (H4.chg hC (fun q hq h => (hGk4 q hq).2.1 h)).set1 rfl u'
  have H2 := (H.chg hC (fun q hq h => (hGk q (G4k q hq)).2.1 h)).chg hS (fun q hq h => by
    have hq : q = ga := hq
    subst hq; exact (hGk q hga).2.1 h)
  have hK4' : (Rp.ow true 3 Rp.int).K (w'.setCell ⟨ga, i, none⟩ u') G' l' [u'] := ⟨u', rfl, mu⟩
  have m3 := H4'.close hK4' (fun q hq h => by
    rcases hG' q hq with h' | h'
    · exact (hGk4 q h').2.1 h
    · have := lt q (e3 q (hFr4 q h)); omega)
  have in3 : ∀ q, Fr4 q ∨ G' q → G3 q ∨ w.heap.size ≤ q := fun q hq => by
    rcases hq with hq | hq
    · exact .inl (hFr4 q hq)
    · rcases hG' q hq with h' | h'
      · exact .inl (hGk4 q h').1
      · exact .inr h'
  have dis : ∀ q, (Fr4 q ∨ G' q) → ∀ G : Nat → Prop, (∀ q, G q → Gk q) → (∀ q, G q → ¬ G3 q) → ¬ G q := fun q hq G hGG h1 h => by
    rcases in3 q hq with h' | h'
    · exact h1 q h h'
    · have := lt q (hGG q h); omega
  have hK' := partA_mk (F := fun q => Gk q ∨ G' q) (x := { L[k] with args := L[k].args.set i l' }) (fun q hq => .inl (e0 q hq)) (fun q hq => .inl (e1 q hq)) (fun q hq => .inl (e2 q hq)) (fun q hq => hq.elim (fun h => .inl (e3 q (hFr4 q h))) .inr)
    d01 d02 (fun q h h' => dis q h' G0 e0 d03 h) d12 (fun q h h' => dis q h' G1 e1 d13 h) (fun q h h' => dis q h' G2 e2 d23 h) m0 m1 m2 m3
  refine (H2.close hK' (fun q hq h => ?_)).mono (fun q hq => ?_)
  · rcases hq with hq | hq
    · exact (hGk q hq).2.1 h
    · rcases hG' q hq with h' | h'
      · exact (hGk q (G4k q h')).2.1 h
      · have := (hFr q h).2; omega
  · rcases hq with hq | hq | hq
    · exact .inl (hFr q hq).1
    · exact .inl (hGk q hq).1.1
    · exact .inr hq
end
end Go.Proofs.YtnfaibenekninaaGreat.L
