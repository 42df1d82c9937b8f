/- Joined texts, each of which was built by itself: Ha1 Mp1 Nu1 Mk2 Ds2 Op0 Ap1. -/
import Derived.Test.YtnfaibenekninaaGreatFUseFirst2
import Derived.Test.YtnfaibenekninaaGreatB3
import Derived.Test.YtnfaibenekninaaGreatProg
import Derived.Test.YtnfaibenekninaaGreatFUseFirst1
import Derived.Test.YtnfaibenekninaaGreatB1
import Derived.Maps.OwnSet
import Derived.DeepKeys4
import Derived.Test.YtnfaibenekninaaGreatB11
import Derived.Maps.AppendAt
import Derived.Test.YtnfaibenekninaaGreatB12
set_option linter.unusedVariables false
set_option linter.unusedSimpArgs false
namespace Go.Proofs.YtnfaibenekninaaGreat.L
open Go.RowKit
theorem handP_step (p : Pt) (q i : Int) {m : Nat} : handP p q i (m + 1) = handP p q i m ++ (if p.next.getD m 0 = q then [(p.args.getD m []).getD i.toNat 0] else []) := handP_succ p q i m
set_option maxRecDepth 100000 in
set_option maxHeartbeats 4000000 in
theorem handed_calls {F : Nat → Prop} (s : Sa) (sb so q i : Nat) (vparts : Value) (w : World) (hc : w.cell? ⟨sb, so, none⟩ = some vparts) (hs : Rp.Rd part w F vparts s.parts)
    (hlen : s.parts.length ≤ 11 ∧ ∀ p ∈ s.parts, p.next.length ≤ 6) (hed : ∀ p ∈ s.parts, ∀ m, m < p.next.length → m < p.args.length ∧ (p.next.getD m 0 = q → i < (p.args.getD m []).length)) :
    Calls Tryz.prog 128 #[.pointer (some ⟨sb, so, none⟩), .int .i64 q, .int .i64 i] w fun e w' => ∃ v', e = .returned v' ∧ Ow true 3 Rp.int w' (fun k => w.heap.size ≤ k) v' (handS s.parts q i) ∧ Below w.heap.size w w' := by
  obtain ⟨A, c, rfl, hlc, hcm, hrow⟩ := rd_part hs
  have hB := below_new (w := w) (.cells #[] 3)
  have hO := (ow_empty (r := Rp.int) (ap := true) (heap_alloc_new w (.cells #[] 3))).mono (G := fun q => w.heap.size ≤ q) (fun q hq => by have hq : q = w.heap.size := hq; omega)
  have hz : w.heap.size < (w.alloc (.cells #[] 3)).heap.size := by simp
  have HE := Lib.hid hed
  have HNl := Lib.hid hlen.2
  have hlp := hlen.1
  have HSl : Hid (∀ k, k ≤ s.parts.length → (handS (s.parts.take k) q i).length ≤ 66) := Lib.hid (fun k hk => Nat.le_trans (handS_len (B := 6) (fun p hp => hlen.2 p (List.mem_of_mem_take hp))) (by rw [List.length_take]; omega))
  clear hs hed hlen
  go_enter Tryz.func128, Tryz.ntmps128
  have hcc := cell_below hB hc
  go_wp2_with fail
  generalize w.alloc (.cells #[] 3) = W1 at *
  go_loopw [7, 17] (fun av x wr => ∃ (m : Nat) (sv : Value), sv = av ∧ m ≤ s.parts.length ∧ x = .int .i64 m ∧ Ow true 3 Rp.int wr (fun k => w.heap.size ≤ k) sv (handS (s.parts.take m) q i) ∧ Below w.heap.size w wr) (fun _ x _ => s.parts.length - (intOf x).toNat)
  case atStart => exact ⟨0, _, rfl, Nat.zero_le _, rfl, by simpa [handS] using hO, hB⟩
  case round =>
    clear hO hB hcc
    obtain ⟨m, sv, rfl, hm, rfl, HO, HB⟩ := hrel
    rename World => wo
    by_cases hlt : m < s.parts.length
    · rcases hrow with hnil | ⟨b, o, rfl, hb, hcell⟩
      · rw [hnil] at hlt; simp at hlt
      obtain ⟨_, _, _, _, hp, ⟨A1, c1, rfl, _⟩, ⟨A2, c2, rfl, _⟩, h3, h4⟩ := hcell m hlt
      obtain ⟨A3, c3, rfl, _, _, hr3⟩ := rd_int h3
      obtain ⟨A4, c4, rfl, _, _, hr4⟩ := rd_ints h4
      have hpm := List.getElem_mem hlt
      have hed := Lib.hid (HE.out _ hpm)
      have hnl := HNl.out _ hpm
      have hsl := HSl.out m hm
      have hTk := Lib.hid (handS_take hlt q i)
      obtain ⟨q0, q1, q2, q3, q4, q5⟩ := partAt_below hp HB
      have hcw := cell_below HB hc
      have HP := Lib.hid hp
      clear hcell hpm hp
      obtain ⟨p, hpe⟩ : ∃ p, p = s.parts[m] := ⟨_, rfl⟩
      rw [← hpe] at h3 h4 hr3 hr4 hed hnl hTk q0 q1 q2 q3 q4 q5 HP
      clear hpe
      obtain ⟨H0, hH0⟩ : ∃ H0, H0 = handS (s.parts.take m) q i := ⟨_, rfl⟩
      rw [← hH0] at HO hsl hTk
      clear hH0
      have i0 : (0 : Int) ≤ (m : Int) := Int.natCast_nonneg _
      have i1 : (m : Int) < (s.parts.length : Int) := by omega
      have HO0 : Ow true 3 Rp.int wo (fun k => w.heap.size ≤ k) sv (H0 ++ handP p q i 0) := by simpa [handP] using HO
      clear HO
      go_wp2_with fail
      clear q0 q1 q2 q3 q4 q5 hcw
      go_loopw [7, 29] (fun av x wr => ∃ (n : Nat) (sv : Value), sv = av ∧ n ≤ p.next.length ∧ x = .int .i64 n ∧ Ow true 3 Rp.int wr (fun k => w.heap.size ≤ k) sv (H0 ++ handP p q i n) ∧ Below w.heap.size w wr) (fun _ x _ => p.next.length - (intOf x).toNat)
      case atStart => exact ⟨0, _, rfl, Nat.zero_le _, rfl, HO0, HB⟩
      case round =>
        clear HO0 HB
        obtain ⟨n, sv, rfl, hn, rfl, HO, HB⟩ := hrel
        rename World => wx
        by_cases hnt : n < p.next.length
        · rcases hr3 with hn0 | ⟨b3, o3, rfl, hb3, hc3⟩
          · rw [hn0] at hnt; simp at hnt
          have cv := cell_below HB (hc3 n hnt)
          have hed1 := Lib.hid (hed.out n hnt)
          have e : p.next.getD n 0 = p.next[n] := by rw [List.getD_eq_getElem?_getD, List.getElem?_eq_getElem hnt]; rfl
          have hSt := Lib.hid (handP_step p q i (m := n))
          rw [e] at hSt hed1
          have hLn := handP_len p q i n
          clear hc3 e
          obtain ⟨y, hy⟩ : ∃ y, y = p.next[n] := ⟨_, rfl⟩
          rw [← hy] at cv hSt hed1
          clear hy
          have n0 : (0 : Int) ≤ (n : Int) := Int.natCast_nonneg _
          have n1 : (n : Int) < (p.next.length : Int) := by omega
          by_cases hyq : y = (q : Int)
          · have hal := (hed1.out).1
            have hai := (hed1.out).2 hyq
            have hSt2 : Hid (H0 ++ handP p q i (n + 1) = (H0 ++ handP p q i n) ++ [(p.args.getD n []).getD i 0]) := Lib.hid (by rw [hSt.out, if_pos hyq, List.append_assoc]; rfl)
            rcases hr4 with hn0 | ⟨b4, o4, rfl, hb4, hc4⟩
            · rw [hn0] at hal; simp at hal
            obtain ⟨u4, cu4, hu4⟩ := hc4 n hal
            have e4 : p.args.getD n [] = p.args[n] := by rw [List.getD_eq_getElem?_getD, List.getElem?_eq_getElem hal]; rfl
            rw [e4] at hai hSt2
            obtain ⟨A5, c5, rfl, _, _, hr5⟩ := rd_int hu4
            rcases hr5 with hn0 | ⟨b5, o5, rfl, hb5, hc5⟩
            · rw [hn0] at hai; simp at hai
            have cu5 := cell_below HB (hc5 i hai)
            have cu4 := cell_below HB cu4
            have e5 : p.args[n].getD i 0 = p.args[n][i] := by rw [List.getD_eq_getElem?_getD, List.getElem?_eq_getElem hai]; rfl
            rw [e5] at hSt2
            obtain ⟨z, hz⟩ : ∃ z, z = p.args[n][i] := ⟨_, rfl⟩
            rw [← hz] at hSt2 cu5
            clear hz e4 e5 hc5 hc4
            obtain ⟨La, hLa⟩ : ∃ La, La = p.args[n].length := ⟨_, rfl⟩
            rw [← hLa] at cu4 hai
            clear hLa hu4
            obtain ⟨q0, q1, q2, q3, q4, q5⟩ := partAt_below HP.out HB
            have hcw := cell_below HB hc
            obtain ⟨l1, hl1⟩ : ∃ l1, l1 = H0 ++ handP p q i n := ⟨_, rfl⟩
            have hl1n : l1.length ≤ 200 := by rw [hl1, List.length_append]; omega
            rw [← hl1] at HO hSt2
            clear hl1 hSt hed1
            obtain ⟨Av, kv, rfl, _, _⟩ := HO.form
            have a0 : (0 : Int) ≤ (i : Int) := Int.natCast_nonneg _
            have a1 : (i : Int) < (La : Int) := by omega
            have a2 : (n : Int) < (p.args.length : Int) := by omega
            subst hyq
            go_wp2_with (at_builtin; (refine app_int (by rfl) _ _ (by rfl) (.slice Av l1.length kv) l1 z wx.heap.size rfl (by rfl) (by rfl) HO (by omega) ?_; intro A' c' w3 HO3 hg; have HB3 := below_grown HB hg (fun q hq => own_in HO (.inr hq)) HB.size; have HO4 := HO3.mono (G := fun q => w.heap.size ≤ q) (fun q hq => by have := HB.size; rcases hq with hq | hq; exact hq; omega)))
            go_roundw
            case rel => exact ⟨n + 1, _, rfl, by omega, by go_num, by rw [hSt2.out]; simpa using HO4, HB3⟩
            case measure => simp [intOf]; omega
          · have hSt2 : Hid (H0 ++ handP p q i (n + 1) = H0 ++ handP p q i n) := Lib.hid (by rw [hSt.out, if_neg hyq, List.append_nil])
            have hne : (y == (q : Int)) = false := by simpa using hyq
            clear hyq hSt hed1
            go_wp2
            go_roundw
            case rel => exact ⟨n + 1, _, rfl, by omega, by go_num, by rw [hSt2.out]; exact HO, HB⟩
            case measure => simp [intOf]; omega
        · obtain rfl : n = p.next.length := by omega
          rw [← hTk.out] at HO
          go_wp2
          go_roundw
          case rel => exact ⟨m + 1, _, rfl, by omega, by go_num, HO, HB⟩
          case measure => simp [intOf]; omega
    · obtain rfl : m = s.parts.length := by omega
      rw [List.take_length] at HO
      go_wp2
      go_ret
      exact ⟨_, rfl, HO, HB⟩
end Go.Proofs.YtnfaibenekninaaGreat.L

set_option linter.unusedVariables false
set_option linter.unusedSimpArgs false
namespace Go.Proofs.YtnfaibenekninaaGreat.L
open Go.RowKit Go.Maps
theorem laidM : laidOutB Tryz.prog = true := by kernel_rfl
/-- Keys of a type: how they lie, and what they read as. -/
structure KeyE (κ : Type) where
  K : Nat
  law : Keyed Tryz.prog K
  enc : κ → Value
  ok : κ → Prop
  kl : κ → Lit
  key : ∀ x, ok x → keyOf Tryz.prog K (enc x) = some (kl x)
  inj : ∀ x y, ok x → ok y → enc x = enc y → x = y
theorem KeyE.klInj {κ : Type} (E : KeyE κ) {x y : κ} (hx : E.ok x) (hy : E.ok y) (h : E.kl x = E.kl y) : x = y := by
  have h1 := E.key x hx
  have h2 := E.key y hy
  rw [← h] at h2
  exact E.inj x y hx hy (E.law.inj h1 h2)
theorem keysPos : ∃ m, Tryz.prog.types.size = m + 1 := by
  have h : 0 < Tryz.prog.types.size := of_decide_eq_true (by kernel_rfl)
  exact ⟨Tryz.prog.types.size - 1, by omega⟩
theorem i64wf {a : Int} (h : -9223372036854775808 ≤ a ∧ a ≤ 9223372036854775807) : (Lit.int .i64 a).wf = true := by
  simp only [Lit.wf, Bool.and_eq_true, decide_eq_true_eq]
  exact h
theorem lits_int (m : Nat) {a : Int} (h : -9223372036854775808 ≤ a ∧ a ≤ 9223372036854775807) : Tryz.prog.keyLits (m + 1) 3 [.int .i64 a] = some [.int .i64 a] := by
  simp [Program.keyLits, Tryz.underlying3, i64wf h]
theorem lits_str (m : Nat) {s : ByteArray} (h : s.size ≤ maxLen) : Tryz.prog.keyLits (m + 1) 9 [.string s] = some [.string s.data.toList] := by
  simp [Program.keyLits, Tryz.underlying9, h]
/-- A pair of numbers as a key. -/
def srtV (p : Int × Int) : Value := .agg #[.int .i64 p.1, .int .i64 p.2]
def in64 (a : Int) : Prop := -9223372036854775808 ≤ a ∧ a ≤ 9223372036854775807
theorem key_srt (p : Int × Int) (h : in64 p.1 ∧ in64 p.2) : keyOf Tryz.prog 156 (srtV p) = some (.string (keyBytes [.int .i64 p.1, .int .i64 p.2])) := by
  obtain ⟨m, hm⟩ := keysPos
  have h1 : Tryz.prog.keyType 156 = true := by kernel_rfl
  have hc : Tryz.prog.cellsOf 156 = 2 := by kernel_rfl
  have hi : Tryz.prog.cellsOf 3 = 1 := by kernel_rfl
  have e1 := lits_int m (a := p.1) h.1
  have e2 := lits_int m (a := p.2) h.2
  unfold keyOf
  rw [hm]
  simp [Tryz.underlying156, h1, Value.formed, srtV, hc, hi, Program.keyLits, Value.cells, i64wf h.1, i64wf h.2, Tryz.underlying3]
theorem row_srt : (156 : Nat) < Tryz.prog.types.size := of_decide_eq_true (by kernel_rfl)
theorem law_srt : Keyed Tryz.prog 156 := Keyed.of_law (deep_law_laid laidM (m := 2) (by omega) row_srt (by kernel_rfl) (by kernel_rfl))
def KSrt : KeyE (Int × Int) where
  K := 156
  law := law_srt
  enc := srtV
  ok := fun p => in64 p.1 ∧ in64 p.2
  kl := fun p => .string (keyBytes [.int .i64 p.1, .int .i64 p.2])
  key := key_srt
  inj := fun x y _ _ h => by
    unfold srtV at h
    simp at h
    exact Prod.ext h.1 h.2
/-- A group, and a text of others, as a key. -/
def grpV (p : Nat × List UInt8) : Value := .agg #[.int .i64 p.1, .string ⟨p.2.toArray⟩]
theorem key_grp (p : Nat × List UInt8) (h : p.1 ≤ 1000000 ∧ p.2.length ≤ 1000000000) : keyOf Tryz.prog 163 (grpV p) = some (.string (keyBytes [.int .i64 p.1, .string p.2])) := by
  obtain ⟨m, hm⟩ := keysPos
  have h1 : Tryz.prog.keyType 163 = true := by kernel_rfl
  have hc : Tryz.prog.cellsOf 163 = 2 := by kernel_rfl
  have hi : Tryz.prog.cellsOf 3 = 1 := by kernel_rfl
  have hs : Tryz.prog.cellsOf 9 = 1 := by kernel_rfl
  have e1 := lits_int m (a := (p.1 : Int)) (by omega)
  have e2 := lits_str m (s := ⟨p.2.toArray⟩) (by show p.2.toArray.size ≤ maxLen; unfold maxLen; simp; omega)
  have w1 : (Lit.int .i64 (p.1 : Int)).wf = true := i64wf (by omega)
  have w2 : ({ data := p.2.toArray } : ByteArray).size ≤ maxLen := by show p.2.toArray.size ≤ maxLen; unfold maxLen; simp; omega
  unfold keyOf
  rw [hm]
  simp [Tryz.underlying163, h1, Value.formed, grpV, hc, hi, hs, Program.keyLits, Value.cells, w1, w2, Tryz.underlying3, Tryz.underlying9]
theorem row_grp : (163 : Nat) < Tryz.prog.types.size := of_decide_eq_true (by kernel_rfl)
theorem law_grp : Keyed Tryz.prog 163 := Keyed.of_law (deep_law_laid laidM (m := 2) (by omega) row_grp (by kernel_rfl) (by kernel_rfl))
def KGrp : KeyE (Nat × List UInt8) where
  K := 163
  law := law_grp
  enc := grpV
  ok := fun p => p.1 ≤ 1000000 ∧ p.2.length ≤ 1000000000
  kl := fun p => .string (keyBytes [.int .i64 p.1, .string p.2])
  key := key_grp
  inj := fun x y _ _ h => by
    unfold grpV at h
    simp at h
    exact Prod.ext (by omega) h.2
def inS {κ : Type} [DecidableEq κ] (S : List κ) (x : κ) : Bool := decide (x ∈ S)
theorem inS_yes {κ : Type} [DecidableEq κ] {S : List κ} {x : κ} (h : x ∈ S) : inS S x = true := decide_eq_true h
theorem inS_no {κ : Type} [DecidableEq κ] {S : List κ} {x : κ} (h : x ∉ S) : inS S x = false := decide_eq_false h
def ixOn {κ : Type} [DecidableEq κ] (S : List κ) (x : κ) : Nat := S.idxOf x
/-- Block b is a map of the things of S to their places there. -/
structure MapN {κ : Type} [DecidableEq κ] (E : KeyE κ) (b : Nat) (S : List κ) (w : World) : Prop where
  ok : ∀ x ∈ S, E.ok x
  nd : S.Nodup
  ex : ∃ D : DataW Unit, w.ownsMap Tryz.prog E.K (plainElem Tryz.prog 3) b S.length D ∧ size D = S.length ∧ (∀ x, E.ok x → has D (E.kl x) = decide (x ∈ S)) ∧ ∀ x ∈ S, D.atKey (E.kl x) (.lit (.int .i64 0)) = .lit (.int .i64 (ixOn S x : Nat))
namespace MapN
variable {κ : Type} [DecidableEq κ] {E : KeyE κ} {b : Nat} {S : List κ} {w w' : World}
theorem made (w : World) : MapN E w.heap.size [] (w.alloc (.map #[] 0)) :=
  ⟨fun x hx => (by cases hx), List.nodup_nil, .map [], World.ownsMap_made _ _ _ _, rfl, fun x _ => rfl, fun x hx => (by cases hx)⟩
theorem lt (h : MapN E b S w) : b < w.heap.size := by
  obtain ⟨_, _, D, h1, _⟩ := h
  exact h1.lt
theorem chg {A : Nat → Prop} (h : MapN E b S w) (hc : Chg A w w') (hA : ¬ A b) : MapN E b S w' := by
  obtain ⟨h0, h00, D, ⟨es, clock, hb, F, hs, hD⟩, h2, h3, h4⟩ := h
  exact ⟨h0, h00, D, ⟨es, clock, hc.blk hb hA, F, hs, hD⟩, h2, h3, h4⟩
theorem below (h : MapN E b S w) (hb : Below w.heap.size w w') : MapN E b S w' := h.chg (A := fun _ => False) (Chg.of_below hb) id
end MapN
theorem zeroIntM (w : World) : (zeroValue 3).run Tryz.prog w = .ok (.int .i64 0) w := by kernel_rfl
section
variable {κ : Type} [DecidableEq κ] {E : KeyE κ} {b : Nat} {S : List κ} {w : World} {ops : Array Oper} {rest : List Oper} {o : Oper} {a : Act} {Q : Exit → Act → World → Prop}
/-- v, ok := m[k]. -/
theorem mapN_look (hg : o.guard = none) (m x : Operand) (t : TypeId) (hop : o.op = Op.lookup t m x true) (ht : Tryz.prog.underlying t = some (.map E.K 3)) (hm : a.eval m = .map (some b)) (h : MapN E b S w) (k : κ) (hk : E.ok k) (hx : a.eval x = E.enc k)
    (hK : ∀ c : Int, (k ∈ S → c = (ixOn S k : Nat)) → wpList Tryz.prog ops Q rest (a.put o.dst (.tuple #[.int .i64 c, .bool (inS S k)])) w) :
    wpList Tryz.prog ops Q (o :: rest) a w := by
  obtain ⟨h0, h00, D, h1, h2, h3, h4⟩ := h
  refine wpList_lookup_own_ok_int w hg m x t hop E.K 3 .i64 E.law ht Tryz.underlying3 (zeroIntM w) b S.length D hm h1 _ (E.kl k) hx (E.key k hk) ?_
  intro c hat hwc
  rw [h3 k hk]
  show wpList _ _ _ _ (a.put o.dst (.tuple #[.int .i64 c, .bool (inS S k)])) w
  refine hK c (fun hin => ?_)
  have := h4 k hin
  rw [hat] at this
  simpa using this
/-- len(m). -/
theorem mapN_len (hg : o.guard = none) (m : Operand) (t : TypeId) (hop : o.op = Op.call { callee := Callee.builtin Builtin.len, args := #[m], argTypes := #[t] }) (ht : Tryz.prog.underlying t = some (.map E.K 3)) (hm : a.eval m = .map (some b)) (h : MapN E b S w)
    (hK : wpList Tryz.prog ops Q rest (a.put o.dst (.int .i64 (S.length : Nat))) w) : wpList Tryz.prog ops Q (o :: rest) a w := by
  obtain ⟨h0, h00, D, h1, h2, h3, h4⟩ := h
  refine wpList_len_own w hg m t hop E.K 3 ht _ b S.length D hm h1 ?_
  rw [h2]
  exact hK
/-- m[k] = len(m), k not there. -/
theorem mapN_put (hg : o.guard = none) (m x v : Operand) (t : TypeId) (hop : o.op = Op.mapUpdate t m x v) (ht : Tryz.prog.underlying t = some (.map E.K 3)) (hm : a.eval m = .map (some b)) (h : MapN E b S w) (k : κ) (hk : E.ok k) (hx : a.eval x = E.enc k) (hv : a.eval v = .int .i64 (S.length : Nat)) (hn : k ∉ S) (hl : S.length ≤ 1000000)
    (hK : ∀ w', MapN E b (S ++ [k]) w' → Chg (fun q => q = b) w w' → wpList Tryz.prog ops Q rest (a.put o.dst undef) w') :
    wpList Tryz.prog ops Q (o :: rest) a w := by
  obtain ⟨h0, h00, D, h1, h2, h3, h4⟩ := h
  refine wpList_mapUpdate_own w hg m x v t hop E.K 3 E.law ht _ b S.length D hm h1 (by unfold maxLen; omega) _ _ (E.kl k) hx hv (E.key k hk) _ [] (plainElem_int Tryz.underlying3 (i64wf (by omega))) ?_
  intro w' hown hg'
  refine hK w' ⟨fun y hy => ?_, ?_, _, by simpa using hown, ?_, fun y hy => ?_, fun y hy => ?_⟩ ⟨hg'.os, hg'.tape, hg'.output, hg'.size, fun q hq hne => hg'.block q hq (fun he => hne (by cases he; rfl))⟩
  · rcases List.mem_append.1 hy with hy | hy
    · exact h0 y hy
    · rw [List.mem_singleton.1 hy]; exact hk
  · exact List.nodup_append.2 ⟨h00, by simp, fun a ha b hb he => by rw [List.mem_singleton.1 hb] at he; exact hn (he ▸ ha)⟩
  · rw [size_put (h1.tidy E.law), h3 k hk, decide_eq_false hn, h2]
    simp
  · by_cases hky : y = k
    · subst hky
      rw [has_put_same h1.isMap (E.law.key (E.key y hk))]
      simp
    · rw [has_put_other (fun he => hky (E.klInj hy hk he)), h3 y hy]
      simp [hky]
  · rcases List.mem_append.1 hy with hy | hy
    · have hyk : y ≠ k := fun he => hn (he ▸ hy)
      rw [atKey_put_other (fun he => hyk (E.klInj (h0 y hy) hk he)), h4 y hy]; unfold ixOn; rw [List.idxOf_append, if_pos hy]
    · rw [List.mem_singleton.1 hy, atKey_put_same h1.isMap (E.law.key (E.key k hk))]; unfold ixOn; rw [List.idxOf_append, if_neg hn]
      simp
end
end Go.Proofs.YtnfaibenekninaaGreat.L

set_option linter.unusedVariables false
set_option linter.unusedSimpArgs false
namespace Go.Proofs.YtnfaibenekninaaGreat.L
open Go.RowKit
def srtK : Rp (Int × Int) := Rp.int.pair Rp.int
theorem srt_open {w : World} {F : Nat → Prop} {x : Int × Int} {cs : List Value} (h : srtK.K w F x cs) : cs = [.int .i64 x.1, .int .i64 x.2] := by
  obtain ⟨a, b, rfl, rfl, rfl⟩ := h
  rfl
theorem srt_mk (w : World) (F : Nat → Prop) (x : Int × Int) : srtK.K w F x [.int .i64 x.1, .int .i64 x.2] := ⟨[_], [_], rfl, rfl, rfl⟩
def grpK : Rp (Nat × List UInt8) := (Rp.int.pair Rp.str).iso (fun x => ((x.1 : Int), ⟨x.2.toArray⟩))
theorem grp_open {w : World} {F : Nat → Prop} {x : Nat × List UInt8} {cs : List Value} (h : grpK.K w F x cs) : cs = [.int .i64 x.1, .string ⟨x.2.toArray⟩] := by
  obtain ⟨a, b, rfl, rfl, rfl⟩ := h
  rfl
theorem grp_mk (w : World) (F : Nat → Prop) (x : Nat × List UInt8) : grpK.K w F x [.int .i64 x.1, .string ⟨x.2.toArray⟩] := ⟨[_], [_], rfl, rfl, rfl⟩
theorem rd_two {α : Type} {r : Rp α} {f g : α → Value} (h2 : r.sz = 2) (ho : ∀ {w F x cs}, r.K w F x cs → cs = [f x, g x]) {w : World} {F : Nat → Prop} {v : Value} {l : List α} (h : Rp.Rd r w F v l) : ∃ A c, v = .slice A l.length c ∧ l.length ≤ c ∧ c ≤ 9223372036854775807 ∧
    (l = [] ∨ ∃ b o, A = some ⟨b, o, none⟩ ∧ b < w.heap.size ∧ ∀ (k : Nat) (hk : k < l.length), w.cell? ⟨b, o + k * 2, none⟩ = some (f l[k]) ∧ w.cell? ⟨b, o + k * 2 + 1, none⟩ = some (g l[k])) := by
  obtain ⟨A, c, rfl, hl, hm, h⟩ := h
  refine ⟨A, c, rfl, hl, hm, ?_⟩
  rcases h with h | ⟨b, o, rfl, _, hb, h⟩
  · exact .inl h
  · refine .inr ⟨b, o, rfl, hb, fun k hk => ?_⟩
    obtain ⟨cs, hK, hc⟩ := h k l[k] (List.getElem?_eq_getElem hk)
    obtain rfl := ho hK
    rw [h2] at hc
    refine ⟨hc 0 _ rfl, ?_⟩
    have := hc 1 _ rfl
    rwa [← Nat.add_assoc] at this
/-- What numbered has laid after i rounds. -/
def outN {κ : Type} [DecidableEq κ] (l : List κ) (i : Nat) : List Int := (l.take i).map (fun x => ((ixOn (firsts l) x : Nat) : Int)) ++ List.replicate (l.length - i) 0
theorem outN_len {κ : Type} [DecidableEq κ] (l : List κ) (i : Nat) (hi : i ≤ l.length) : (outN l i).length = l.length := by unfold outN; simp; omega
theorem outN_set {κ : Type} [DecidableEq κ] {l : List κ} {i : Nat} (hi : i < l.length) : (outN l i).set i ((ixOn (firsts l) l[i] : Nat) : Int) = outN l (i + 1) := by
  unfold outN
  have e1 : l.length - i = (l.length - (i + 1)) + 1 := by omega
  rw [e1, List.replicate_succ, List.set_append_right _ _ (by simp; omega), List.take_succ_eq_append_getElem hi, List.map_append, List.append_assoc]
  simp [Nat.min_eq_left (Nat.le_of_lt hi)]
theorem outN_all {κ : Type} [DecidableEq κ] (l : List κ) : outN l l.length = (numL l).map (fun n : Nat => (n : Int)) := by
  unfold outN numL
  rw [List.take_length, Nat.sub_self, List.replicate_zero, List.append_nil, List.map_map]
  rfl
theorem idx_old {κ : Type} [DecidableEq κ] {l : List κ} {i : Nat} (hi : i < l.length) (h : l[i] ∈ firsts (l.take i)) : ixOn (firsts l) l[i] = ixOn (firsts (l.take i)) l[i] := idx_take (mem_firsts.1 h)
theorem idx_new {κ : Type} [DecidableEq κ] {l : List κ} {i : Nat} (hi : i < l.length) (h : l[i] ∉ firsts (l.take i)) : ixOn (firsts l) l[i] = (firsts (l.take i)).length := by
  have hm : l[i] ∈ l.take (i + 1) := List.mem_take_iff_getElem.2 ⟨i, by omega, rfl⟩
  unfold ixOn
  rw [idx_take hm, take_snoc hi, addF, if_neg h, List.idxOf_append, if_neg h]
  simp
set_option maxRecDepth 100000 in
set_option maxHeartbeats 4000000 in
theorem numberedSrt_calls {F : Nat → Prop} (keys : List (Int × Int)) (v : Value) (w : World) (h : Rp.Rd srtK w F v keys) (hok : ∀ x ∈ keys, KSrt.ok x) (hl : keys.length ≤ 1000) :
    Calls Tryz.prog 116 #[v] w fun e w' => ∃ v', e = .returned (.tuple #[v', .int .i64 ((firsts keys).length : Nat)]) ∧ Ow true 3 Rp.int w' (fun q => w.heap.size ≤ q) v' ((numL keys).map (fun n : Nat => (n : Int))) ∧ Below w.heap.size w w' := by
  obtain ⟨A, c, rfl, hlc, hcm, hrow⟩ := rd_two (r := srtK) rfl (fun h => srt_open h) h
  have hmk := mk_all Tryz.underlying59 infoInt keys.length (by omega) (by omega)
  have hmm := fun t W => run_makeMap (P := Tryz.prog) t W
  have hO := ow_allocE (e := 3) (n := keys.length) (r := Rp.int) (z := .int .i64 0) (x0 := 0) w (by omega) rfl (fun _ => rfl)
  have hb1 := below_new (w := w) (.cells (madeCells #[.int .i64 0] keys.length) 3)
  have hz1 : (w.alloc (.cells (madeCells #[.int .i64 0] keys.length) 3)).heap.size = w.heap.size + 1 := by simp
  have HOK := Lib.hid hok
  have hO0 : Hid (outN keys 0 = List.replicate keys.length 0) := Lib.hid (by simp [outN])
  have hOA := Lib.hid (outN_all keys)
  clear h hok
  go_enter Tryz.func116, Tryz.ntmps116
  go_wp2_with fail
  obtain ⟨W1, hW1⟩ : ∃ W1, W1 = w.alloc (.cells (madeCells #[.int .i64 0] keys.length) 3) := ⟨_, rfl⟩
  rw [← hW1] at hO hb1 hz1 ⊢
  clear hW1
  have hM := MapN.made (E := KSrt) W1
  have hb2 := below_new (w := W1) (.map #[] 0)
  have hz2 : (W1.alloc (.map #[] 0)).heap.size = W1.heap.size + 1 := by simp
  obtain ⟨W2, hW2⟩ : ∃ W2, W2 = W1.alloc (.map #[] 0) := ⟨_, rfl⟩
  rw [← hW2] at hM hb2 hz2 ⊢
  clear hW2
  have hO2 := hO.below hb2
  have hB2 := below_then hb1 hb2
  rw [← hO0.out] at hO2
  obtain ⟨go, hgo⟩ : ∃ go, go = w.heap.size := ⟨_, rfl⟩
  obtain ⟨mb, hmb⟩ : ∃ mb, mb = W1.heap.size := ⟨_, rfl⟩
  have hgm : go < mb := by omega
  have hmw : mb < W2.heap.size := by omega
  rw [← hmb] at hM
  have hmb2 : mb = w.heap.size + 1 := by omega
  have hB3 : Below go w W2 := by rw [hgo]; exact hB2
  have hret : ∀ w' : World, Chg (fun q => q = go ∨ q = mb) W2 w' → Below w.heap.size w w' := fun _ h => h.to_below hB2 hB2.size (fun q hq => by rcases hq with hq | hq <;> omega)
  replace hret := Lib.hid hret
  rw [← hmb2, ← hgo]
  rw [← hgo] at hO2
  replace hgo := Lib.hid hgo
  clear hO hb1 hz1 hb2 hz2 hmb hmb2 hO0 hmk hmm
  go_loopw [16] (fun i wr => ∃ k : Nat, k ≤ keys.length ∧ i = .int .i64 k ∧ Ow true 3 Rp.int wr (fun q => q = go) (.slice (some ⟨go, 0, none⟩) keys.length keys.length) (outN keys k) ∧ MapN KSrt mb (firsts (keys.take k)) wr ∧ Chg (fun q => q = go ∨ q = mb) W2 wr) (fun i _ => keys.length - (intOf i).toNat)
  case atStart => exact ⟨0, Nat.zero_le _, rfl, hO2, by simpa [firsts] using hM, Chg.refl _ _⟩
  case round =>
    clear hO2 hM
    obtain ⟨k, hk, rfl, HO, HM, HC⟩ := hrel
    rename World => wo
    by_cases hkt : k < keys.length
    · rcases hrow with hnil | ⟨b, o, rfl, hb, hcell⟩
      · rw [hnil] at hkt; simp at hkt
      have hBo := hret.out _ HC
      obtain ⟨c0, c1⟩ := hcell k hkt
      have c0 := cell_below hBo c0
      have c1 := cell_below hBo c1
      have hokk := HOK.out _ (List.getElem_mem hkt)
      have hset := Lib.hid (outN_set hkt)
      have hsn := Lib.hid (take_snoc hkt)
      have hold := Lib.hid (idx_old hkt)
      have hnew := Lib.hid (idx_new hkt)
      have hSl : (firsts (keys.take k)).length ≤ k := Nat.le_trans (firsts_len _) (by simp; omega)
      have hol := outN_len keys k hk
      clear hcell
      obtain ⟨x, hx⟩ : ∃ x, x = keys[k] := ⟨_, rfl⟩
      rw [← hx] at c0 c1 hokk hset hsn hold hnew
      clear hx
      obtain ⟨S, hS⟩ : ∃ S, S = firsts (keys.take k) := ⟨_, rfl⟩
      rw [← hS] at HM hSl hsn hold hnew
      clear hS
      obtain ⟨ix, hix⟩ : ∃ ix, ix = ixOn (firsts keys) x := ⟨_, rfl⟩
      rw [← hix] at hset hold hnew
      clear hix
      have k0 : (0 : Int) ≤ (k : Int) := Int.natCast_nonneg _
      have k1 : (k : Int) < (keys.length : Int) := by omega
      have hbx := below_new (w := wo) (.cells #[.int .i64 x.1, .int .i64 x.2] 156)
      have ex := heap_alloc_new wo (.cells #[.int .i64 x.1, .int .i64 x.2] 156)
      have HM1 := HM.below hbx
      obtain ⟨y1, _⟩ := cell_of_block ex
      have y10 : (wo.alloc (.cells #[.int .i64 x.1, .int .i64 x.2] 156)).cell? ⟨wo.heap.size, 0, none⟩ = some (.int .i64 x.1) := (y1 0).trans rfl
      have y11 : (wo.alloc (.cells #[.int .i64 x.1, .int .i64 x.2] 156)).cell? ⟨wo.heap.size, 1, none⟩ = some (.int .i64 x.2) := (y1 1).trans rfl
      have HCx := HC.trans (Chg.of_below (A := fun q => q = go ∨ q = mb) hbx)
      clear y1 HC HM
      by_cases hin : x ∈ S
      · have hd : inS S x = true := inS_yes hin
        have hixv := hold.out hin
        have hsn2 : Hid (firsts (keys.take (k + 1)) = S) := Lib.hid (by rw [hsn.out, addF, if_pos hin])
        replace hin := Lib.hid hin
        replace hixv := Lib.hid hixv
        clear hold hnew hsn
        have HO1 := HO.below hbx
        obtain ⟨hc1, hf1⟩ := HO1.int_at (k := k) (by omega)
        have HP := HO1.set1 (i := k) (y := ((ix : Nat) : Int)) rfl (by omega) rfl
        rw [hset.out] at HP
        have HM2 := HM1.chg (A := fun q => q = go) (w' := (wo.alloc (.cells #[.int .i64 x.1, .int .i64 x.2] 156)).setCell ⟨go, k, none⟩ (.int .i64 (ix : Nat))) (Chg.set rfl) (by show ¬ mb = go; omega)
        rw [← hsn2.out] at HM2
        have HC2 := HCx.trans (Chg.set (A := fun q => q = go ∨ q = mb) (b := go) (o := k) (u := .int .i64 (ix : Nat)) (.inl rfl))
        clear HO hset hsn2 HO1
        go_wp2_with (first | (at_lookup; refine mapN_look (E := KSrt) (by rfl) _ _ 193 (by rfl) Tryz.underlying193 (by rfl) HM1 x hokk (by rfl) ?_; intro ci hci; obtain rfl : ci = (ix : Int) := (hci hin.out).trans (by rw [hixv.out]); clear hci; rw [hd]) | fail)
        go_roundw
        case rel => exact ⟨k + 1, by omega, by go_num, HP, HM2, HC2⟩
        case measure => simp [intOf]; omega
      · have hd : inS S x = false := inS_no hin
        have hixv := hnew.out hin
        have hsn2 : Hid (firsts (keys.take (k + 1)) = S ++ [x]) := Lib.hid (by rw [hsn.out, addF, if_neg hin])
        replace hin := Lib.hid hin
        clear hold hnew hsn
        subst hixv
        have HO1 := HO.below hbx
        clear HO
        go_wp2_with (first | (at_lookup; refine mapN_look (E := KSrt) (by rfl) _ _ 193 (by rfl) Tryz.underlying193 (by rfl) HM1 x hokk (by rfl) ?_; intro ci hci; clear hci; rw [hd]) | (at_len; refine mapN_len (E := KSrt) (by rfl) _ 193 (by rfl) Tryz.underlying193 (by rfl) HM1 ?_) | (at_mapUpdate; refine mapN_put (E := KSrt) (by rfl) _ _ _ 193 (by rfl) Tryz.underlying193 (by rfl) HM1 x hokk (by rfl) (by rfl) hin.out (by omega) ?_; intro w5 HM5 hC5; obtain ⟨hc5, hfr5⟩ := (HO1.move (hC5.same (fun q hq h => by have hq : q = go := hq; have h : q = mb := h; omega))).int_at (k := k) (by omega)) | fail)
        have HO5 := HO1.move (hC5.same (fun q hq h => by have hq : q = go := hq; have h : q = mb := h; omega))
        have HP := HO5.set1 (i := k) (y := ((S.length : Nat) : Int)) rfl (by omega) rfl
        rw [hset.out] at HP
        have HM6 := HM5.chg (A := fun q => q = go) (w' := w5.setCell ⟨go, k, none⟩ (.int .i64 (S.length : Nat))) (Chg.set rfl) (by show ¬ mb = go; omega)
        rw [← hsn2.out] at HM6
        have HC6 := (HCx.trans (hC5.mono (A' := fun q => q = go ∨ q = mb) (fun q hq => .inr hq))).trans (Chg.set (A := fun q => q = go ∨ q = mb) (b := go) (o := k) (u := .int .i64 (S.length : Nat)) (.inl rfl))
        go_roundw
        case rel => exact ⟨k + 1, by omega, by go_num, HP, HM6, HC6⟩
        case measure => simp [intOf]; omega
    · obtain rfl : k = keys.length := by omega
      rw [List.take_length] at HM
      rw [hOA.out] at HO
      have hBo := hret.out _ HC
      go_wp2_with (first | (at_len; refine mapN_len (E := KSrt) (by rfl) _ 193 (by rfl) Tryz.underlying193 (by rfl) HM ?_) | fail)
      refine bodyPost_ret (v := .tuple #[.slice (some ⟨go, 0, none⟩) keys.length keys.length, .int .i64 ((firsts keys).length : Nat)]) (by simp [results, Tryz.results116, go_sem]) rfl ?_
      exact ⟨_, rfl, HO.mono (fun q hq => by have hq : q = go := hq; have := hgo.out; omega), hBo⟩
set_option maxRecDepth 100000 in
set_option maxHeartbeats 4000000 in
theorem numberedGrp_calls {F : Nat → Prop} (keys : List (Nat × List UInt8)) (v : Value) (w : World) (h : Rp.Rd grpK w F v keys) (hok : ∀ x ∈ keys, KGrp.ok x) (hl : keys.length ≤ 1000) :
    Calls Tryz.prog 117 #[v] w fun e w' => ∃ v', e = .returned (.tuple #[v', .int .i64 ((firsts keys).length : Nat)]) ∧ Ow true 3 Rp.int w' (fun q => w.heap.size ≤ q) v' ((numL keys).map (fun n : Nat => (n : Int))) ∧ Below w.heap.size w w' := by
  obtain ⟨A, c, rfl, hlc, hcm, hrow⟩ := rd_two (r := grpK) rfl (fun h => grp_open h) h
  have hmk := mk_all Tryz.underlying59 infoInt keys.length (by omega) (by omega)
  have hmm := fun t W => run_makeMap (P := Tryz.prog) t W
  have hO := ow_allocE (e := 3) (n := keys.length) (r := Rp.int) (z := .int .i64 0) (x0 := 0) w (by omega) rfl (fun _ => rfl)
  have hb1 := below_new (w := w) (.cells (madeCells #[.int .i64 0] keys.length) 3)
  have hz1 : (w.alloc (.cells (madeCells #[.int .i64 0] keys.length) 3)).heap.size = w.heap.size + 1 := by simp
  have HOK := Lib.hid hok
  have hO0 : Hid (outN keys 0 = List.replicate keys.length 0) := Lib.hid (by simp [outN])
  have hOA := Lib.hid (outN_all keys)
  clear h hok
  go_enter Tryz.func117, Tryz.ntmps117
  go_wp2_with fail
  obtain ⟨W1, hW1⟩ : ∃ W1, W1 = w.alloc (.cells (madeCells #[.int .i64 0] keys.length) 3) := ⟨_, rfl⟩
  rw [← hW1] at hO hb1 hz1 ⊢
  clear hW1
  have hM := MapN.made (E := KGrp) W1
  have hb2 := below_new (w := W1) (.map #[] 0)
  have hz2 : (W1.alloc (.map #[] 0)).heap.size = W1.heap.size + 1 := by simp
  obtain ⟨W2, hW2⟩ : ∃ W2, W2 = W1.alloc (.map #[] 0) := ⟨_, rfl⟩
  rw [← hW2] at hM hb2 hz2 ⊢
  clear hW2
  have hO2 := hO.below hb2
  have hB2 := below_then hb1 hb2
  rw [← hO0.out] at hO2
  obtain ⟨go, hgo⟩ : ∃ go, go = w.heap.size := ⟨_, rfl⟩
  obtain ⟨mb, hmb⟩ : ∃ mb, mb = W1.heap.size := ⟨_, rfl⟩
  have hgm : go < mb := by omega
  have hmw : mb < W2.heap.size := by omega
  rw [← hmb] at hM
  have hmb2 : mb = w.heap.size + 1 := by omega
  have hB3 : Below go w W2 := by rw [hgo]; exact hB2
  have hret : ∀ w' : World, Chg (fun q => q = go ∨ q = mb) W2 w' → Below w.heap.size w w' := fun _ h => h.to_below hB2 hB2.size (fun q hq => by rcases hq with hq | hq <;> omega)
  replace hret := Lib.hid hret
  rw [← hmb2, ← hgo]
  rw [← hgo] at hO2
  replace hgo := Lib.hid hgo
  clear hO hb1 hz1 hb2 hz2 hmb hmb2 hO0 hmk hmm
  go_loopw [16] (fun i wr => ∃ k : Nat, k ≤ keys.length ∧ i = .int .i64 k ∧ Ow true 3 Rp.int wr (fun q => q = go) (.slice (some ⟨go, 0, none⟩) keys.length keys.length) (outN keys k) ∧ MapN KGrp mb (firsts (keys.take k)) wr ∧ Chg (fun q => q = go ∨ q = mb) W2 wr) (fun i _ => keys.length - (intOf i).toNat)
  case atStart => exact ⟨0, Nat.zero_le _, rfl, hO2, by simpa [firsts] using hM, Chg.refl _ _⟩
  case round =>
    clear hO2 hM
    obtain ⟨k, hk, rfl, HO, HM, HC⟩ := hrel
    rename World => wo
    by_cases hkt : k < keys.length
    · rcases hrow with hnil | ⟨b, o, rfl, hb, hcell⟩
      · rw [hnil] at hkt; simp at hkt
      have hBo := hret.out _ HC
      obtain ⟨c0, c1⟩ := hcell k hkt
      have c0 := cell_below hBo c0
      have c1 := cell_below hBo c1
      have hokk := HOK.out _ (List.getElem_mem hkt)
      have hset := Lib.hid (outN_set hkt)
      have hsn := Lib.hid (take_snoc hkt)
      have hold := Lib.hid (idx_old hkt)
      have hnew := Lib.hid (idx_new hkt)
      have hSl : (firsts (keys.take k)).length ≤ k := Nat.le_trans (firsts_len _) (by simp; omega)
      have hol := outN_len keys k hk
      clear hcell
      obtain ⟨x, hx⟩ : ∃ x, x = keys[k] := ⟨_, rfl⟩
      rw [← hx] at c0 c1 hokk hset hsn hold hnew
      clear hx
      obtain ⟨S, hS⟩ : ∃ S, S = firsts (keys.take k) := ⟨_, rfl⟩
      rw [← hS] at HM hSl hsn hold hnew
      clear hS
      obtain ⟨ix, hix⟩ : ∃ ix, ix = ixOn (firsts keys) x := ⟨_, rfl⟩
      rw [← hix] at hset hold hnew
      clear hix
      have k0 : (0 : Int) ≤ (k : Int) := Int.natCast_nonneg _
      have k1 : (k : Int) < (keys.length : Int) := by omega
      have hbx := below_new (w := wo) (.cells #[.int .i64 x.1, .string ⟨x.2.toArray⟩] 163)
      have ex := heap_alloc_new wo (.cells #[.int .i64 x.1, .string ⟨x.2.toArray⟩] 163)
      have HM1 := HM.below hbx
      obtain ⟨y1, _⟩ := cell_of_block ex
      have y10 : (wo.alloc (.cells #[.int .i64 x.1, .string ⟨x.2.toArray⟩] 163)).cell? ⟨wo.heap.size, 0, none⟩ = some (.int .i64 x.1) := (y1 0).trans rfl
      have y11 : (wo.alloc (.cells #[.int .i64 x.1, .string ⟨x.2.toArray⟩] 163)).cell? ⟨wo.heap.size, 1, none⟩ = some (.string ⟨x.2.toArray⟩) := (y1 1).trans rfl
      have HCx := HC.trans (Chg.of_below (A := fun q => q = go ∨ q = mb) hbx)
      clear y1 HC HM
      by_cases hin : x ∈ S
      · have hd : inS S x = true := inS_yes hin
        have hixv := hold.out hin
        have hsn2 : Hid (firsts (keys.take (k + 1)) = S) := Lib.hid (by rw [hsn.out, addF, if_pos hin])
        replace hin := Lib.hid hin
        replace hixv := Lib.hid hixv
        clear hold hnew hsn
        have HO1 := HO.below hbx
        obtain ⟨hc1, hf1⟩ := HO1.int_at (k := k) (by omega)
        have HP := HO1.set1 (i := k) (y := ((ix : Nat) : Int)) rfl (by omega) rfl
        rw [hset.out] at HP
        have HM2 := HM1.chg (A := fun q => q = go) (w' := (wo.alloc (.cells #[.int .i64 x.1, .string ⟨x.2.toArray⟩] 163)).setCell ⟨go, k, none⟩ (.int .i64 (ix : Nat))) (Chg.set rfl) (by show ¬ mb = go; omega)
        rw [← hsn2.out] at HM2
        have HC2 := HCx.trans (Chg.set (A := fun q => q = go ∨ q = mb) (b := go) (o := k) (u := .int .i64 (ix : Nat)) (.inl rfl))
        clear HO hset hsn2 HO1
        go_wp2_with (first | (at_lookup; refine mapN_look (E := KGrp) (by rfl) _ _ 195 (by rfl) Tryz.underlying195 (by rfl) HM1 x hokk (by rfl) ?_; intro ci hci; obtain rfl : ci = (ix : Int) := (hci hin.out).trans (by rw [hixv.out]); clear hci; rw [hd]) | fail)
        go_roundw
        case rel => exact ⟨k + 1, by omega, by go_num, HP, HM2, HC2⟩
        case measure => simp [intOf]; omega
      · have hd : inS S x = false := inS_no hin
        have hixv := hnew.out hin
        have hsn2 : Hid (firsts (keys.take (k + 1)) = S ++ [x]) := Lib.hid (by rw [hsn.out, addF, if_neg hin])
        replace hin := Lib.hid hin
        clear hold hnew hsn
        subst hixv
        have HO1 := HO.below hbx
        clear HO
        go_wp2_with (first | (at_lookup; refine mapN_look (E := KGrp) (by rfl) _ _ 195 (by rfl) Tryz.underlying195 (by rfl) HM1 x hokk (by rfl) ?_; intro ci hci; clear hci; rw [hd]) | (at_len; refine mapN_len (E := KGrp) (by rfl) _ 195 (by rfl) Tryz.underlying195 (by rfl) HM1 ?_) | (at_mapUpdate; refine mapN_put (E := KGrp) (by rfl) _ _ _ 195 (by rfl) Tryz.underlying195 (by rfl) HM1 x hokk (by rfl) (by rfl) hin.out (by omega) ?_; intro w5 HM5 hC5; obtain ⟨hc5, hfr5⟩ := (HO1.move (hC5.same (fun q hq h => by have hq : q = go := hq; have h : q = mb := h; omega))).int_at (k := k) (by omega)) | fail)
        have HO5 := HO1.move (hC5.same (fun q hq h => by have hq : q = go := hq; have h : q = mb := h; omega))
        have HP := HO5.set1 (i := k) (y := ((S.length : Nat) : Int)) rfl (by omega) rfl
        rw [hset.out] at HP
        have HM6 := HM5.chg (A := fun q => q = go) (w' := w5.setCell ⟨go, k, none⟩ (.int .i64 (S.length : Nat))) (Chg.set rfl) (by show ¬ mb = go; omega)
        rw [← hsn2.out] at HM6
        have HC6 := (HCx.trans (hC5.mono (A' := fun q => q = go ∨ q = mb) (fun q hq => .inr hq))).trans (Chg.set (A := fun q => q = go ∨ q = mb) (b := go) (o := k) (u := .int .i64 (S.length : Nat)) (.inl rfl))
        go_roundw
        case rel => exact ⟨k + 1, by omega, by go_num, HP, HM6, HC6⟩
        case measure => simp [intOf]; omega
    · obtain rfl : k = keys.length := by omega
      rw [List.take_length] at HM
      rw [hOA.out] at HO
      have hBo := hret.out _ HC
      go_wp2_with (first | (at_len; refine mapN_len (E := KGrp) (by rfl) _ 195 (by rfl) Tryz.underlying195 (by rfl) HM ?_) | fail)
      refine bodyPost_ret (v := .tuple #[.slice (some ⟨go, 0, none⟩) keys.length keys.length, .int .i64 ((firsts keys).length : Nat)]) (by simp [results, Tryz.results117, go_sem]) rfl ?_
      exact ⟨_, rfl, HO.mono (fun q hq => by have hq : q = go := hq; have := hgo.out; omega), hBo⟩
end Go.Proofs.YtnfaibenekninaaGreat.L

set_option linter.unusedVariables false
set_option linter.unusedSimpArgs false
namespace Go.Proofs.YtnfaibenekninaaGreat.L
open Go.RowKit
def Mkr.t (m : Mkr) : (Int × Int) × List Int × Int := ((m.kind, m.n), m.uses, m.copy)
def mkrK : Rp Mkr := ((Rp.int.pair Rp.int).pair ((Rp.sl Rp.int).pair Rp.int)).iso Mkr.t
def mkrCs (m : Mkr) (u : Value) : List Value := [.int .i64 m.kind, .int .i64 m.n, u, .int .i64 m.copy]
theorem mkr_open {w : World} {F : Nat → Prop} {m : Mkr} {cs : List Value} (h : mkrK.K w F m cs) : ∃ u, cs = mkrCs m u ∧ Rp.Rd Rp.int w F u m.uses := by
  obtain ⟨_, _, rfl, ⟨_, _, rfl, rfl, rfl⟩, _, _, rfl, ⟨u, rfl, hu⟩, rfl⟩ := h
  exact ⟨u, rfl, hu⟩
theorem mkr_mk {w : World} {F : Nat → Prop} {m : Mkr} {u : Value} (hu : Rp.Rd Rp.int w F u m.uses) : mkrK.K w F m (mkrCs m u) :=
  ⟨[_, _], [_, _], rfl, ⟨[_], [_], rfl, rfl, rfl⟩, [_], [_], rfl, ⟨u, rfl, hu⟩, rfl⟩
theorem infoMkr : (Tryz.prog.info? 158).map (fun i => (i.zero, i.size, i.bytes)) = some (some (.agg #[.int .i64 0, .int .i64 0, .slice none 0 0, .int .i64 0]), 4, 48) := by kernel_rfl
/-- In four cells. -/
structure MkAt (w : World) (b o : Nat) (m : Mkr) (u : Value) : Prop where
  c0 : w.cell? ⟨b, o, none⟩ = some (.int .i64 m.kind)
  c1 : w.cell? ⟨b, o + 1, none⟩ = some (.int .i64 m.n)
  c2 : w.cell? ⟨b, o + 2, none⟩ = some u
  c3 : w.cell? ⟨b, o + 3, none⟩ = some (.int .i64 m.copy)
theorem MkAt.below {w w1 : World} {b o : Nat} {m : Mkr} {u : Value} (h : MkAt w b o m u) (hb : Below w.heap.size w w1) : MkAt w1 b o m u :=
  ⟨cell_below hb h.c0, cell_below hb h.c1, cell_below hb h.c2, cell_below hb h.c3⟩
theorem mkAt_of {w : World} {b o : Nat} {m : Mkr} {u : Value} (h : ∀ j v, (mkrCs m u)[j]? = some v → w.cell? ⟨b, o + j, none⟩ = some v) : MkAt w b o m u := ⟨h 0 _ rfl, h 1 _ rfl, h 2 _ rfl, h 3 _ rfl⟩
theorem rd_mkr {w : World} {F : Nat → Prop} {v : Value} {l : List Mkr} (h : Rp.Rd mkrK w F v l) : ∃ A c, v = .slice A l.length c ∧ l.length ≤ c ∧ c ≤ 9223372036854775807 ∧
    (l = [] ∨ ∃ b o, A = some ⟨b, o, none⟩ ∧ b < w.heap.size ∧ ∀ (k : Nat) (hk : k < l.length), ∃ u, MkAt w b (o + k * 4) l[k] u ∧ Rp.Rd Rp.int w F u l[k].uses) := by
  obtain ⟨A, c, rfl, hl, hm, h⟩ := h
  refine ⟨A, c, rfl, hl, hm, ?_⟩
  rcases h with h | ⟨b, o, rfl, _, hb, h⟩
  · exact .inl h
  · refine .inr ⟨b, o, rfl, hb, fun k hk => ?_⟩
    obtain ⟨cs, hK, hc⟩ := h k l[k] (List.getElem?_eq_getElem hk)
    obtain ⟨u, rfl, hu⟩ := mkr_open hK
    refine ⟨u, mkAt_of fun j v hv => ?_, hu⟩
    rw [Nat.add_assoc]
    exact hc j v hv
/-- The row of makers as it lies: B is where its own memory begins behind it. -/
structure MSt (N go B : Nat) (M : List Mkr) (W0 w : World) : Prop where
  ln : M.length = N
  gb : go < B
  ow : Ow false 158 mkrK w (fun q => q = go ∨ B ≤ q) (.slice (some ⟨go, 0, none⟩) N N) M
  ch : Chg (fun q => q = go) W0 w
namespace MSt
variable {N go B : Nat} {M : List Mkr} {W0 w w' : World}
theorem below (h : MSt N go B M W0 w) (hb : Below w.heap.size w w') : MSt N go B M W0 w' := ⟨h.ln, h.gb, h.ow.below hb, h.ch.trans (Chg.of_below hb)⟩
theorem at_ (h : MSt N go B M W0 w) {a : Nat} (ha : a < N) {m : Mkr} (hm : M[a]'(by rw [h.ln]; exact ha) = m) : ∃ u, MkAt w go (a * 4) m u ∧ Rp.Rd Rp.int w (fun q => B ≤ q) u m.uses ∧ ∀ o, w.frozen? ⟨go, o, none⟩ = false := by
  obtain ⟨us, hK, hH⟩ := h.ow.holeL (k := a) (by rw [h.ln]; exact ha)
  rw [hm] at hK
  obtain ⟨u, rfl, hu⟩ := mkr_open hK
  exact ⟨u, mkAt_of (fun j v hv => hH.cell.1 j v hv), hu.mono (fun q hq => hq.1.resolve_left hq.2), fun o => hH.free o⟩
theorem cells (h : MSt N go B M W0 w) {a : Nat} (ha : a < N) : ∃ m u, MkAt w go (a * 4) m u ∧ ∀ o, w.frozen? ⟨go, o, none⟩ = false := by
  obtain ⟨u, h1, _, h3⟩ := h.at_ ha rfl
  exact ⟨_, u, h1, h3⟩
theorem put (h : MSt N go B M W0 w) {a : Nat} (ha : a < N) {m : Mkr} {u : Value} (hu : Rp.Rd Rp.int w (fun q => B ≤ q) u m.uses) : MSt N go B (M.set a m) W0 (putRow w go (a * 4) (mkrCs m u)) :=
  ⟨by rw [List.length_set]; exact h.ln, h.gb, (h.ow.putS (G := fun q => B ≤ q) rfl (by rw [h.ln]; exact ha) (mkr_mk hu) (fun k hk he => by have hk : B ≤ k := hk; have := h.gb; omega)).mono (fun q hq => hq.elim id .inr), h.ch.trans (putRow_chg _ _ _ _)⟩
theorem sort (h : MSt N go B M W0 w) {a : Nat} (ha : a < N) {m : Mkr} (hm : M[a]'(by rw [h.ln]; exact ha) = m) (x y : Int) : MSt N go B (M.set a { m with kind := x, n := y }) W0 ((w.setCell ⟨go, a * 4, none⟩ (.int .i64 x)).setCell ⟨go, a * 4 + 1, none⟩ (.int .i64 y)) := by
  obtain ⟨us, hK, hH⟩ := h.ow.holeL (k := a) (by rw [h.ln]; exact ha)
  rw [hm] at hK
  obtain ⟨u, rfl, hu⟩ := mkr_open hK
  have hH2 := (hH.set0 (s := 4) rfl (by omega) (.int .i64 x)).setj (s := 4) (j := 1) rfl (by omega) (.int .i64 y)
  have hC : Chg (fun q => q = go) w ((w.setCell ⟨go, a * 4, none⟩ (.int .i64 x)).setCell ⟨go, a * 4 + 1, none⟩ (.int .i64 y)) := (Chg.set (A := fun q => q = go) rfl).trans (Chg.set rfl)
  refine ⟨by rw [List.length_set]; exact h.ln, h.gb, (hH2.close (G := fun q => B ≤ q) (y := { m with kind := x, n := y }) (mkr_mk (u := u) ((hu.mono (fun q hq => hq.1.resolve_left hq.2)).move (hC.same (fun q hq he => by have hq : B ≤ q := hq; have he : q = go := he; have := h.gb; omega)))) (fun k hk he => by have hk : B ≤ k := hk; have := h.gb; omega)).mono (fun q hq => hq.elim id .inr), h.ch.trans hC⟩
theorem uses (h : MSt N go B M W0 w) {a : Nat} (ha : a < N) {m : Mkr} (hm : M[a]'(by rw [h.ln]; exact ha) = m) {v : Value} {l : List Int} (hv : Rp.Rd Rp.int w (fun q => B ≤ q) v l) : MSt N go B (M.set a { m with uses := l }) W0 (w.setCell ⟨go, a * 4 + 2, none⟩ v) := by
  obtain ⟨us, hK, hH⟩ := h.ow.holeL (k := a) (by rw [h.ln]; exact ha)
  rw [hm] at hK
  obtain ⟨u, rfl, hu⟩ := mkr_open hK
  have hH2 := hH.setj (s := 4) (j := 2) rfl (by omega) v
  have hC : Chg (fun q => q = go) w (w.setCell ⟨go, a * 4 + 2, none⟩ v) := Chg.set rfl
  refine ⟨by rw [List.length_set]; exact h.ln, h.gb, (hH2.close (G := fun q => B ≤ q) (y := { m with uses := l }) (mkr_mk (u := v) (hv.move (hC.same (fun q hq he => by have hq : B ≤ q := hq; have he : q = go := he; have := h.gb; omega)))) (fun k hk he => by have hk : B ≤ k := hk; have := h.gb; omega)).mono (fun q hq => hq.elim id .inr), h.ch.trans hC⟩
theorem copy (h : MSt N go B M W0 w) {a : Nat} (ha : a < N) {m : Mkr} (hm : M[a]'(by rw [h.ln]; exact ha) = m) (x : Int) : MSt N go B (M.set a { m with copy := x }) W0 (w.setCell ⟨go, a * 4 + 3, none⟩ (.int .i64 x)) := by
  obtain ⟨us, hK, hH⟩ := h.ow.holeL (k := a) (by rw [h.ln]; exact ha)
  rw [hm] at hK
  obtain ⟨u, rfl, hu⟩ := mkr_open hK
  have hH2 := hH.setj (s := 4) (j := 3) rfl (by omega) (.int .i64 x)
  have hC : Chg (fun q => q = go) w (w.setCell ⟨go, a * 4 + 3, none⟩ (.int .i64 x)) := Chg.set rfl
  refine ⟨by rw [List.length_set]; exact h.ln, h.gb, (hH2.close (G := fun q => B ≤ q) (y := { m with copy := x }) (mkr_mk (u := u) ((hu.mono (fun q hq => hq.1.resolve_left hq.2)).move (hC.same (fun q hq he => by have hq : B ≤ q := hq; have he : q = go := he; have := h.gb; omega)))) (fun k hk he => by have hk : B ≤ k := hk; have := h.gb; omega)).mono (fun q hq => hq.elim id .inr), h.ch.trans hC⟩
end MSt
/-- What the program keeps in the end: copies are what they are copies of. -/
def resM (s : Sa) (D : List Df) (v : Nat) : Mkr := ⟨(sortD D (rootD D v)).1, (sortD D (rootD D v)).2, partsD s D (rootD D v), (mkOf s v (D.getD v df0)).copy⟩
def resL (s : Sa) (D : List Df) (N : Nat) : List Mkr := (List.range N).map (resM s D)
/-- The first k are told anew. -/
def midL (s : Sa) (D : List Df) (N k : Nat) : List Mkr := (List.range N).map (fun v => if v < k then resM s D v else mkOf s v (D.getD v df0))
theorem midL_len (s : Sa) (D : List Df) (N k : Nat) : (midL s D N k).length = N := by simp [midL]
theorem midL_get {s : Sa} {D : List Df} {N k v : Nat} (hv : v < N) (h : v < (midL s D N k).length) : (midL s D N k)[v] = if v < k then resM s D v else mkOf s v (D.getD v df0) := by simp [midL]
theorem midL_set {s : Sa} {D : List Df} {N k : Nat} (hk : k < N) {m : Mkr} (h : m = resM s D k) : (midL s D N k).set k m = midL s D N (k + 1) := by
  apply List.ext_getElem
  · simp [midL]
  · intro i h1 h2
    rw [List.getElem_set]
    simp only [midL, List.getElem_map, List.getElem_range]
    by_cases hik : k = i
    · subst hik; simp [h]
    · rw [if_neg hik]
      by_cases h3 : i < k
      · rw [if_pos h3, if_pos (by omega)]
      · rw [if_neg h3, if_neg (by omega)]
theorem midL_all (s : Sa) (D : List Df) (N : Nat) : midL s D N N = resL s D N := by
  unfold midL resL
  refine List.map_congr_left fun v hv => ?_
  rw [if_pos (List.mem_range.1 hv)]
theorem mkTo_mid {s : Sa} (h : GoodP s) {N : Nat} (hN : s.values.toNat = N) : mkTo s s.parts.length = midL s (dfAll s) N 0 := by
  have hb := both_to h s.parts.length (Nat.le_refl _)
  apply List.ext_getElem
  · rw [hb.lm, midL_len, hN]
  · intro i h1 h2
    rw [midL_len] at h2
    have := hb.eq i (by omega)
    rw [List.getD_eq_getElem?_getD, List.getElem?_eq_getElem h1] at this
    rw [midL_get h2, if_neg (by omega)]
    exact this
/-- What stands at u while k is told. -/
def cM (s : Sa) (D : List Df) (k u : Nat) : Mkr := if u < k then resM s D u else mkOf s u (D.getD u df0)
def cpM (s : Sa) (D : List Df) (u : Nat) : Int := (mkOf s u (D.getD u df0)).copy
def stM (s : Sa) (D : List Df) (k u : Nat) : Mkr := { cM s D k u with copy := cpM s D k }
theorem cM_copy (s : Sa) (D : List Df) (k u : Nat) : (cM s D k u).copy = cpM s D u := by
  unfold cM
  split <;> rfl
theorem midL_cM {s : Sa} {D : List Df} {N k v : Nat} (hv : v < N) (h : v < (midL s D N k).length) : (midL s D N k)[v] = cM s D k v := midL_get hv h
theorem stM_start {s : Sa} {D : List Df} {N k : Nat} (hk : k < N) : (midL s D N k).set k (stM s D k k) = midL s D N k := by
  have hl : k < (midL s D N k).length := by rw [midL_len]; exact hk
  have e : stM s D k k = (midL s D N k)[k] := by
    rw [midL_cM hk hl]
    unfold stM
    rw [← cM_copy s D k k]
  rw [e]
  exact List.set_getElem_self _
theorem stM_end {s : Sa} (h : GoodP s) {rank : Nat → Nat} (hR : Ranked s.values.toNat (dfAll s) rank) {k u : Nat} (hu : u < s.values.toNat) (hop : ((dfAll s).getD u df0).step.op ≠ 2) (hr : rootD (dfAll s) u = rootD (dfAll s) k) : stM s (dfAll s) k u = resM s (dfAll s) k := by
  unfold stM cM
  split
  · unfold resM
    rw [hr]
    rfl
  · rw [mk_own h hu hop]
    have e := rootD_self hop
    rw [e] at hr
    unfold resM
    rw [← hr]
    rfl
theorem mk0s_set {N k : Nat} (hk : k < N) {m z : Mkr} (h : m = mk0 k) : ((List.range N).map (fun v => if v < k then mk0 v else z)).set k m = (List.range N).map (fun v => if v < k + 1 then mk0 v else z) := by
  apply List.ext_getElem
  · simp
  · intro i h1 h2
    rw [List.getElem_set]
    simp only [List.getElem_map, List.getElem_range]
    by_cases hik : k = i
    · subst hik; simp [h]
    · rw [if_neg hik]
      by_cases h3 : i < k
      · rw [if_pos h3, if_pos (by omega)]
      · rw [if_neg h3, if_neg (by omega)]
end Go.Proofs.YtnfaibenekninaaGreat.L

set_option linter.unusedVariables false
set_option linter.unusedSimpArgs false
namespace Go.Proofs.YtnfaibenekninaaGreat.L
open Go.RowKit
theorem getD_df {D : List Df} {v : Nat} (h : v < D.length) : D.getD v df0 = D[v] := by rw [List.getD_eq_getElem?_getD, List.getElem?_eq_getElem h]; rfl
set_option maxRecDepth 100000 in
set_option maxHeartbeats 2000000 in
theorem l11Root_calls {F : Nat → Prop} (D : List Df) (N : Nat) (rank : Nat → Nat) (hR : Ranked N D rank) (hN : D.length = N) (hN1 : N ≤ 250) (vD : Value) (v : Nat) (w : World) (h : Rp.Rd dfK w F vD D) (hv : v < N) :
    Calls Tryz.prog 104 #[vD, .int .i64 v] w fun e w' => e = .returned (.int .i64 (rootD D v : Nat)) ∧ w = w' := by
  obtain ⟨A, c, rfl, _, _, hrow⟩ := rd_df h
  rcases hrow with hnil | ⟨b, o, rfl, hb, hcell⟩
  · rw [hnil] at hN; simp at hN; omega
  have HC := Lib.hid hcell
  have HR := Lib.hid hR
  have HS : Hid (∀ u, (hu : u < N) → rootD D u = if D[u].step.op = 2 then rootD D D[u].step.a.toNat else u) := Lib.hid (fun u hu => by have := rootD_step hR hu; rwa [getD_df (by omega)] at this)
  have HP : Hid (∀ u, (hu : u < N) → D[u].step.op = 2 → 0 ≤ D[u].step.a ∧ D[u].step.a.toNat < N ∧ rank D[u].step.a.toNat < rank u) := Lib.hid (fun u hu hop => by have := hR.cp u hu; rw [getD_df (by omega)] at this; exact this hop)
  clear hcell hR h
  subst hN
  obtain ⟨r, hr⟩ : ∃ r, r = rootD D v := ⟨_, rfl⟩
  rw [← hr]
  replace hr := Lib.hid hr
  go_enter Tryz.func104, Tryz.ntmps104
  go_wp2_with fail
  go_loopw [1] (fun x wr => wr = w ∧ ∃ u : Nat, x = .int .i64 u ∧ u < D.length ∧ Hid (rootD D u = r)) (fun x _ => rank (intOf x).toNat)
  case atStart => exact ⟨rfl, v, rfl, hv, Lib.hid hr.out.symm⟩
  case round =>
    obtain ⟨rfl, u, rfl, hu, Hr⟩ := hrel
    obtain ⟨q0, q1, q2, q3, q4, q5, q6, q7⟩ := HC.out u hu
    have hs := Lib.hid (HS.out u hu)
    have hp := Lib.hid (HP.out u hu)
    have u0 : (0 : Int) ≤ (u : Int) := Int.natCast_nonneg _
    have u1 : (u : Int) < (D.length : Int) := by omega
    generalize D[u] = d at *
    by_cases hop : d.step.op = 2
    · obtain ⟨ha0, ha1, ha2⟩ := hp.out hop
      have hrt : Hid (rootD D d.step.a.toNat = r) := Lib.hid (by rw [← Hr.out, hs.out, if_pos hop])
      rw [hop] at q0
      obtain ⟨a, ha⟩ := Int.eq_ofNat_of_zero_le ha0
      have hat : d.step.a.toNat = a := by omega
      rw [hat] at ha1 ha2 hrt
      rw [ha] at q3
      clear hop hs hp ha0 ha hat Hr
      go_wp2
      go_roundw
      case rel => exact ⟨trivial, a, rfl, ha1, hrt⟩
      case measure => simpa [intOf] using ha2
    · have hrt : r = u := by rw [← Hr.out, hs.out, if_neg hop]
      have hne : (d.step.op == 2) = false := by simpa using hop
      replace hrt := Lib.hid hrt
      clear hop hs hp Hr
      go_wp2
      go_ret
      exact ⟨ret_int (a := (u : Int)) (by rw [hrt.out]), rfl⟩
def pairV (p : Int × Int) : Value := .agg #[.int .i64 p.1, .int .i64 p.2]
set_option maxRecDepth 100000 in
set_option maxHeartbeats 2000000 in
theorem l11Sort_calls {F : Nat → Prop} (D : List Df) (vD : Value) (v : Nat) (w : World) (h : Rp.Rd dfK w F vD D) (hv : v < D.length) (hN1 : D.length ≤ 250) :
    Calls Tryz.prog 142 #[vD, .int .i64 v] w fun e w' => e = .returned (pairV (sortD D v)) ∧ Below w.heap.size w w' := by
  obtain ⟨A, c, rfl, _, _, hrow⟩ := rd_df h
  rcases hrow with hnil | ⟨b, o, rfl, hb, hcell⟩
  · rw [hnil] at hv; simp at hv
  obtain ⟨q0, q1, q2, q3, q4, q5, q6, q7⟩ := hcell v hv
  have hs : sortD D v = if v < 8 ∨ D[v].step.op = 4 then (0, (v : Int)) else if v < 12 then (1, 0) else if D[v].step.op = 1 then (1, D[v].step.n) else if D[v].step.op = 3 then (2, D[v].step.dO) else if 0 ≤ D[v].part then (3, D[v].part) else (0, (v : Int)) := by
    unfold sortD; rw [getD_df hv]
  replace hs := Lib.hid hs
  have u0 : (0 : Int) ≤ (v : Int) := Int.natCast_nonneg _
  have u1 : (v : Int) < (D.length : Int) := by omega
  clear hcell
  generalize sortD D v = S at *
  generalize D[v] = d at *
  obtain ⟨⟨xo, xd, xdst, xa, xb, xn⟩, pt, at_⟩ := d
  dsimp only at *
  by_cases h1 : v < 8
  · have e : S = (0, (v : Int)) := by rw [hs.out]; simp [h1]
    subst e
    have t1 : (v : Int) < 8 := by omega
    clear hs
    go_enter Tryz.func142, Tryz.ntmps142
    go_wp2
    exact bodyPost_ret (v := pairV (0, (v : Int))) (by simp [results, Tryz.results142, go_sem, pairV]) rfl ⟨rfl, ((Below.refl _ _).alloc (Nat.le_refl _) _).alloc (by simp) _⟩
  · have t1 : ¬ (v : Int) < 8 := by omega
    by_cases h2 : xo = 4
    · have e : S = (0, (v : Int)) := by rw [hs.out]; simp [h1, h2]
      subst e
      subst h2
      clear hs
      go_enter Tryz.func142, Tryz.ntmps142
      go_wp2
      exact bodyPost_ret (v := pairV (0, (v : Int))) (by simp [results, Tryz.results142, go_sem, pairV]) rfl ⟨rfl, ((Below.refl _ _).alloc (Nat.le_refl _) _).alloc (by simp) _⟩
    · have t2 : (xo == 4) = false := by simpa using h2
      by_cases h3 : v < 12
      · have e : S = ((1 : Int), (0 : Int)) := by rw [hs.out]; simp [h1, h2, h3]
        subst e
        have t3 : (v : Int) < 12 := by omega
        clear hs
        go_enter Tryz.func142, Tryz.ntmps142
        go_wp2
        exact bodyPost_ret (v := pairV ((1 : Int), (0 : Int))) (by simp [results, Tryz.results142, go_sem, pairV]) rfl ⟨rfl, ((Below.refl _ _).alloc (Nat.le_refl _) _).alloc (by simp) _⟩
      · have t3 : ¬ (v : Int) < 12 := by omega
        by_cases h4 : xo = 1
        · have e : S = ((1 : Int), xn) := by rw [hs.out]; simp [h1, h2, h3, h4]
          subst e
          subst h4
          clear hs
          go_enter Tryz.func142, Tryz.ntmps142
          go_wp2
          exact bodyPost_ret (v := pairV ((1 : Int), xn)) (by simp [results, Tryz.results142, go_sem, pairV]) rfl ⟨rfl, ((Below.refl _ _).alloc (Nat.le_refl _) _).alloc (by simp) _⟩
        · have t4 : (xo == 1) = false := by simpa using h4
          by_cases h5 : xo = 3
          · have e : S = ((2 : Int), xd) := by rw [hs.out]; simp [h1, h2, h3, h4, h5]
            subst e
            subst h5
            clear hs
            go_enter Tryz.func142, Tryz.ntmps142
            go_wp2
            exact bodyPost_ret (v := pairV ((2 : Int), xd)) (by simp [results, Tryz.results142, go_sem, pairV]) rfl ⟨rfl, ((Below.refl _ _).alloc (Nat.le_refl _) _).alloc (by simp) _⟩
          · have t5 : (xo == 3) = false := by simpa using h5
            by_cases h6 : 0 ≤ pt
            · have e : S = ((3 : Int), pt) := by rw [hs.out]; simp [h1, h2, h3, h4, h5, h6]
              subst e
              clear hs
              go_enter Tryz.func142, Tryz.ntmps142
              go_wp2
              exact bodyPost_ret (v := pairV ((3 : Int), pt)) (by simp [results, Tryz.results142, go_sem, pairV]) rfl ⟨rfl, ((Below.refl _ _).alloc (Nat.le_refl _) _).alloc (by simp) _⟩
            · have e : S = (0, (v : Int)) := by rw [hs.out]; simp [h1, h2, h3, h4, h5, h6]
              subst e
              clear hs
              go_enter Tryz.func142, Tryz.ntmps142
              go_wp2
              exact bodyPost_ret (v := pairV (0, (v : Int))) (by simp [results, Tryz.results142, go_sem, pairV]) rfl ⟨rfl, ((Below.refl _ _).alloc (Nat.le_refl _) _).alloc (by simp) _⟩
end Go.Proofs.YtnfaibenekninaaGreat.L

set_option linter.unusedVariables false
set_option linter.unusedSimpArgs false
namespace Go.Proofs.YtnfaibenekninaaGreat.L
open Go.RowKit
theorem oper_append {P : Program} {o : Oper} {a : Act} {W W' : World} {K : Act → World → Prop} {Q : Exit → Act → World → Prop} (s x : Operand) (t : TypeId) (v vx v' : Value)
    (ho : o.op = .call { callee := .builtin .append, args := #[s, x], argTypes := #[t, t] }) (hs : a.eval s = v) (hx : a.eval x = vx) (hr : (Builtin.append_ #[t, t] o.type #[v, vx]).run P W = .ok v' W') (h : K (a.put o.dst v') W') : Oper.wp P o a W K Q := by
  unfold Oper.wp execOp
  simp only [ho, resolve, invoke, builtin, Sem.run_bind, Sem.run_pure, Result.andThen_ok, List.map_toArray, List.map_cons, List.map_nil, hs, hx, hr]
  exact h
end Go.Proofs.YtnfaibenekninaaGreat.L

set_option linter.unusedVariables false
set_option linter.unusedSimpArgs false
namespace Go.Proofs.YtnfaibenekninaaGreat.L
open Go.RowKit
theorem run_ap1 {P : Program} {α : Type} {ap : Bool} {e : Nat} {r : Rp α} {W : World} {F G : Nat → Prop} (t ty : TypeId) (z : Value) (bytes : Nat) (ht : P.underlying t = some (.slice e)) (hinfo : (P.info? e).map (fun i => (i.zero, i.size, i.bytes)) = some (some z, r.sz, bytes)) (hz : z.cells.size = r.sz) (hsz : 0 < r.sz) (hb0 : 0 < bytes)
    (v : Value) (l : List α) (y : α) (us : List Value) (bx : Nat) (hbx : W.heap[bx]? = some (.cells us.toArray e (0, 0))) (HO : Ow ap e r W F v l) (hy : r.K W G y us) (hG : ∀ k, G k → ¬ F k) (hl : (l.length + 1) * bytes ≤ 140737488355328) :
    ∃ v' W', (Builtin.append_ #[t, t] ty #[v, .slice (some ⟨bx, 0, none⟩) 1 1]).run P W = .ok v' W' ∧ Ow ap e r W' (fun k => F k ∨ G k ∨ W.heap.size ≤ k) v' (l ++ [y]) ∧ W.grownBy W' v.ownBlock := by
  obtain ⟨i0, hi, hzz⟩ := Option.map_eq_some_iff.1 hinfo
  simp only [Prod.mk.injEq] at hzz
  obtain ⟨hz0, hz1, hz2⟩ := hzz
  obtain ⟨xs, hown⟩ := HO.owns
  have hlen : l.length + 1 ≤ 140737488355328 := Nat.le_trans (Nat.le_mul_of_pos_right _ hb0) hl
  have hus : us.length = r.sz := r.len hy
  obtain ⟨v1, w1, hr, hown1, hg, hnl, hat⟩ := run_append_own_at (P := P) W 0 t ty e i0 z r.sz bytes ht hi hz0 hz1 hz2 hz hsz v l.length xs hown ⟨bx, 0, none⟩ 1 1 us (by rw [hus, Nat.one_mul])
    (fun j u hu => World.news_of_block (cs := us.toArray) (t := e) (fr := (0, 0)) hbx j u (by simpa using hu)) (r.one hy) (by unfold maxLen; omega) hl (Nat.zero_le _)
  have hat' : v1.ownBlock = v.ownBlock ∨ ∃ b, v1.ownBlock = some b ∧ W.heap.size ≤ b := by
    rcases hat with hat | hat
    · exact .inl hat
    · exact .inr ⟨_, hat, Nat.le_refl _⟩
  refine ⟨v1, w1, hr, ?_, hg⟩
  refine Ow.snoc (w := W) (m := 1) (ys := [y]) (news := us) HO rfl (fun zs hzs => by rw [owns_unique hzs hown]; exact hown1) hg hat' (fun i k => i = 0 ∧ G k) (fun i y' hy' => ?_) (fun i k hk => ⟨hG k hk.2, .inr (.inl hk.2)⟩) (fun _ i j k hi hj => by omega) (fun k hk => .inl hk) (fun k hk => .inr (.inr hk))
  match i, hy' with
  | 0, hy' =>
    simp only [List.getElem?_cons_zero, Option.some.injEq] at hy'
    subst hy'
    rw [Nat.zero_mul, List.drop_zero, List.take_of_length_le (by omega)]
    exact r.mono (fun k hk => ⟨rfl, hk⟩) hy
  | i + 1, hy' => simp at hy'
end Go.Proofs.YtnfaibenekninaaGreat.L
