/- A search through a graph with a queue: plain Lean. -/
import Derived.Test.YtmcnoeinjocimaaRc1
set_option linter.unusedVariables false
namespace Go.Proofs.Ytmcnoeinjocimaa.L
open Go.RowKit
def On (B : List Bool) (x : Int) : Prop := ∃ m : Nat, x = m ∧ B[m]? = some true
theorem On.set {B : List Bool} {x : Int} (k : Nat) (h : On B x) : On (B.set k true) x := by
  obtain ⟨m, rfl, hm⟩ := h
  refine ⟨m, rfl, ?_⟩
  rw [List.getElem?_set]
  have := (List.getElem?_eq_some_iff.1 hm).1
  split
  · rename_i e; rw [if_pos (by omega)]
  · exact hm
theorem On.of_set {B : List Bool} {x : Int} {k : Nat} (h : On (B.set k true) x) : On B x ∨ x = k := by
  obtain ⟨m, rfl, hm⟩ := h
  rw [List.getElem?_set] at hm
  split at hm
  · rename_i e; right; omega
  · exact .inl ⟨m, rfl, hm⟩
theorem On.at_ {B : List Bool} {k : Nat} (hk : k < B.length) : On (B.set k true) k := ⟨k, rfl, by rw [List.getElem?_set, if_pos rfl, if_pos hk]⟩
theorem on_iff {B : List Bool} {k : Nat} (hk : k < B.length) : On B k ↔ B[k] = true := by
  constructor
  · rintro ⟨m, hm, h⟩
    obtain rfl : k = m := by omega
    rw [List.getElem?_eq_getElem hk] at h
    exact Option.some.inj h
  · intro h
    exact ⟨k, rfl, by rw [List.getElem?_eq_getElem hk, h]⟩
def Done (next : List (List Int)) (but : List Int) (B : List Bool) (x : Int) : Prop := ∀ l, next[x.toNat]? = some l → ∀ y ∈ l, y ∉ but → On B y
structure RInv (next : List (List Int)) (but : List Int) (frm : Int) (B : List Bool) (Q : List Int) : Prop where
  len : B.length = next.length
  rch : ∀ x, On B x → Rch next (fun x => x ∉ but) frm x
  q : ∀ x ∈ Q, On B x
  cl : ∀ x, On B x → x ∈ Q ∨ Done next but B x
  st : On B frm
theorem RInv.start {next : List (List Int)} {but : List Int} {n : Nat} (hn : n < next.length) (hb : (n : Int) ∉ but) : RInv next but n ((List.replicate next.length false).set n true) [(n : Int)] := by
  have hs : ∀ x, On ((List.replicate next.length false).set n true) x → x = n := by
    intro x hx
    rcases hx.of_set with ⟨m, rfl, hm⟩ | h
    · rw [List.getElem?_replicate] at hm
      split at hm <;> cases hm
    · exact h
  have h1 : On ((List.replicate next.length false).set n true) n := On.at_ (by rw [List.length_replicate]; exact hn)
  exact ⟨by rw [List.length_set, List.length_replicate], fun x hx => by rw [hs x hx]; exact .start hb, fun x hx => by rw [List.mem_singleton.1 hx]; exact h1, fun x hx => .inl (by rw [hs x hx]; simp), h1⟩
theorem RInv.push {next : List (List Int)} {but : List Int} {frm x0 : Int} {B : List Bool} {Q l : List Int} {k : Nat} (h : RInv next but frm B Q) (h0 : On B x0) (hl : next[x0.toNat]? = some l) (hk : k < B.length) (hx : (k : Int) ∈ l) (hb : (k : Int) ∉ but) : RInv next but frm (B.set k true) (Q ++ [(k : Int)]) :=
  ⟨by rw [List.length_set]; exact h.len, fun x hx' => by
    rcases hx'.of_set with hx' | rfl
    · exact h.rch x hx'
    · obtain ⟨m, rfl, hm⟩ := h0
      exact .step (h.rch _ ⟨m, rfl, hm⟩) (by omega) hl hx hb,
   fun x hx' => by
    rcases List.mem_append.1 hx' with hx' | hx'
    · exact (h.q x hx').set k
    · rw [List.mem_singleton.1 hx']; exact On.at_ hk,
   fun x hx' => by
    rcases hx'.of_set with hx' | rfl
    · rcases h.cl x hx' with h1 | h1
      · exact .inl (List.mem_append.2 (.inl h1))
      · exact .inr (fun l hl y hy hyb => (h1 l hl y hy hyb).set k)
    · exact .inl (by simp), h.st.set k⟩
theorem RInv.pop {next : List (List Int)} {but : List Int} {frm x0 : Int} {B : List Bool} {Q l : List Int} (h : RInv next but frm B (x0 :: Q)) (hl : next[x0.toNat]? = some l) (hd : ∀ y ∈ l, y ∉ but → On B y) : RInv next but frm B Q :=
  ⟨h.len, h.rch, fun x hx => h.q x (List.mem_cons_of_mem _ hx), fun x hx => by
    rcases h.cl x hx with h1 | h1
    · rcases List.mem_cons.1 h1 with rfl | h1
      · right
        intro l' hl' y hy hyb
        rw [hl] at hl'; cases hl'
        exact hd y hy hyb
      · exact .inl h1
    · exact .inr h1, h.st⟩
theorem RInv.done {next : List (List Int)} {but : List Int} {frm : Int} {B : List Bool} (h : RInv next but frm B []) (x : Int) : On B x ↔ Rch next (fun x => x ∉ but) frm x :=
  ⟨h.rch x, fun hx => Rch.sub (S := fun x => On B x) (fun _ => h.st) (fun k hk _ l hl y hy hyb => by
    rcases h.cl k hk with h1 | h1
    · cases h1
    · exact h1 l hl y hy hyb) hx⟩
theorem count_flip {B : List Bool} {k : Nat} (hk : k < B.length) (h : B[k] = false) : (B.set k true).count false + 1 = B.count false := by
  rw [List.count_set hk]
  have h1 : 0 < B.count false := List.count_pos_iff.2 (h ▸ List.getElem_mem hk)
  simp [h]
  omega
theorem reach_none {next : List (List Int)} {but : List Int} {frm : Int} (hb : frm ∈ but) (x : Int) : On (List.replicate next.length false) x ↔ Rch next (fun x => x ∉ but) frm x := by
  constructor
  · rintro ⟨m, rfl, hm⟩
    rw [List.getElem?_replicate] at hm
    split at hm <;> cases hm
  · intro h
    exact (Rch.sub (ok := fun x => x ∉ but) (frm := frm) (S := fun _ => False) (fun h => h hb) (fun _ h => h.elim) h).elim
end Go.Proofs.Ytmcnoeinjocimaa.L
