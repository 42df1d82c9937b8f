/- What is come to in a graph: plain Lean. -/
import Derived.Test.YtmcnoeinjocimaaTy4
set_option linter.unusedVariables false
namespace Go.Proofs.Ytmcnoeinjocimaa.L
open Go.RowKit
/-- Nodes that are come to from one, each step's node being allowed. -/
inductive Rch (next : List (List Int)) (ok : Int → Prop) (frm : Int) : Int → Prop where
  | start : ok frm → Rch next ok frm frm
  | step {k x : Int} {l : List Int} : Rch next ok frm k → 0 ≤ k → next[k.toNat]? = some l → x ∈ l → ok x → Rch next ok frm x
theorem Rch.ok_of {next : List (List Int)} {ok : Int → Prop} {frm k : Int} (h : Rch next ok frm k) : ok k := by
  cases h <;> assumption
def InR (next : List (List Int)) : Prop := ∀ l ∈ next, ∀ x ∈ l, 0 ≤ x ∧ x < next.length
theorem Rch.range {next : List (List Int)} {ok : Int → Prop} {frm k : Int} (h : Rch next ok frm k) (hf : 0 ≤ frm ∧ frm < next.length) (hr : InR next) : 0 ≤ k ∧ k < next.length := by
  induction h with
  | start _ => exact hf
  | step _ _ hl hx _ _ => exact hr _ (List.mem_of_getElem? hl) _ hx
/-- What is closed under steps and holds the start holds all. -/
theorem Rch.sub {next : List (List Int)} {ok S : Int → Prop} {frm : Int} (h0 : ok frm → S frm) (hs : ∀ k, S k → 0 ≤ k → ∀ l, next[k.toNat]? = some l → ∀ x ∈ l, ok x → S x) {k : Int} (h : Rch next ok frm k) : S k := by
  induction h with
  | start h => exact h0 h
  | step _ h1 h2 h3 h4 ih => exact hs _ ih h1 _ h2 _ h3 h4
theorem Rch.mono {next : List (List Int)} {ok ok' : Int → Prop} {frm k : Int} (hm : ∀ x, ok x → ok' x) (h : Rch next ok frm k) : Rch next ok' frm k := by
  induction h with
  | start h => exact .start (hm _ h)
  | step _ h1 h2 h3 h4 ih => exact .step ih h1 h2 h3 (hm _ h4)
theorem len_nodup_range {l : List Int} {n : Nat} (hd : l.Nodup) (hr : ∀ x ∈ l, 0 ≤ x ∧ x < n) : l.length ≤ n := by
  have h : ∀ (n : Nat) (l : List Int), l.Nodup → (∀ x ∈ l, 0 ≤ x ∧ x < n) → l.length ≤ n := by
    intro n
    induction n with
    | zero => intro l _ h; cases l with
      | nil => simp
      | cons x t => have := h x (by simp); omega
    | succ n ih =>
      intro l hd hr
      have h1 := ih (l.erase (n : Int)) (hd.erase _) (fun x hx => by
        have hm := (List.Nodup.mem_erase_iff hd).1 hx
        have := hr x hm.2
        have hne := hm.1
        omega)
      have h2 : l.length ≤ (l.erase (n : Int)).length + 1 := by
        rw [List.length_erase]; split <;> omega
      omega
  exact h n l hd hr
end Go.Proofs.Ytmcnoeinjocimaa.L
