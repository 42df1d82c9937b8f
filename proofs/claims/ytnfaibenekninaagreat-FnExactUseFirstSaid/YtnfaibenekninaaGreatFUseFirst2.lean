/- Joined texts, each of which was built by itself: Gp3 Gp4 Ho2 Dk1 Ds1. -/
import Derived.Test.YtnfaibenekninaaGreatFUseFirst1
import Derived.Test.YtnfaibenekninaaGreatB11
import Derived.Test.YtnfaibenekninaaGreatB3
import Derived.Test.YtnfaibenekninaaGreatB7
set_option linter.unusedVariables false
set_option linter.unusedSimpArgs false
namespace Go.Proofs.YtnfaibenekninaaGreat.L
open Go.RowKit
/-- Strict dominators come first. -/
theorem Rch.either {next : List (List Int)} {d k : Int} (hdk : d ≠ k) {x : Int} (h : Rch next (fun x => x ≠ -1) 0 x) :
    Rch next (fun x => x ≠ d ∧ x ≠ k) 0 x ∨ Rch next (fun x => x ≠ k) 0 d ∨ Rch next (fun x => x ≠ d) 0 k := by
  induction h with
  | start _ =>
    by_cases h1 : (0 : Int) = d
    · subst h1; exact .inr (.inl (.start hdk))
    · by_cases h2 : (0 : Int) = k
      · subst h2; exact .inr (.inr (.start h1))
      · exact .inl (.start ⟨h1, h2⟩)
  | @step y x l hr h0 hl hx hok ih =>
    rcases ih with ih | ih | ih
    · by_cases h1 : x = d
      · subst h1; exact .inr (.inl (.step (ih.mono (fun _ h => h.2)) h0 hl hx hdk))
      · by_cases h2 : x = k
        · subst h2; exact .inr (.inr (.step (ih.mono (fun _ h => h.1)) h0 hl hx h1))
        · exact .inl (.step ih h0 hl hx ⟨h1, h2⟩)
    · exact .inr (.inl ih)
    · exact .inr (.inr ih)
theorem Rch.pass {next : List (List Int)} {d e : Int} {x : Int} (h : Rch next (fun x => x ≠ e) 0 x) : Rch next (fun x => x ≠ d) 0 x ∨ Rch next (fun x => x ≠ e) 0 d := by
  induction h with
  | start he =>
    by_cases h1 : (0 : Int) = d
    · subst h1; exact .inr (.start he)
    · exact .inl (.start h1)
  | @step y x l hr h0 hl hx hok ih =>
    rcases ih with ih | ih
    · by_cases h1 : x = d
      · subst h1; exact .inr (.step hr h0 hl hx hok)
      · exact .inl (.step ih h0 hl hx h1)
    · exact .inr ih
theorem Dom.antisymm {next : List (List Int)} {k d : Int} (h1 : Dom next k d) (h2 : Dom next d k) : d = k := by
  refine Classical.byContradiction fun hne => ?_
  rcases Rch.either hne h1.1 with h | h | h
  · exact h.ok_of.2 rfl
  · exact h2.2.2 h
  · exact h1.2.2 h
theorem Dom.trans {next : List (List Int)} {k d e : Int} (h1 : Dom next k d) (h2 : Dom next d e) : Dom next k e :=
  ⟨h1.1, h2.2.1, fun hr => by
    rcases Rch.pass (d := d) hr with h | h
    · exact h1.2.2 h
    · exact h2.2.2 h⟩
theorem filter_le {α : Type} {p q : α → Bool} : ∀ {l : List α}, (∀ x ∈ l, p x = true → q x = true) → (l.filter p).length ≤ (l.filter q).length
  | [], _ => Nat.le_refl _
  | y :: t, h => by
    have h1 := filter_le (fun z hz => h z (List.mem_cons_of_mem _ hz)) (l := t)
    have h2 := h y List.mem_cons_self
    cases hp : p y
    · rw [List.filter_cons_of_neg (by simp [hp])]
      cases hq : q y
      · rw [List.filter_cons_of_neg (by simp [hq])]; exact h1
      · rw [List.filter_cons_of_pos hq, List.length_cons]; omega
    · rw [List.filter_cons_of_pos hp, List.filter_cons_of_pos (h2 hp), List.length_cons, List.length_cons]; omega
theorem filter_lt {α : Type} {p q : α → Bool} {a : α} (hp : p a = false) (hq : q a = true) : ∀ {l : List α}, (∀ x ∈ l, p x = true → q x = true) → a ∈ l → (l.filter p).length < (l.filter q).length
  | [], _, ha => by cases ha
  | x :: t, h, ha => by
    have hle := filter_le (fun z hz => h z (List.mem_cons_of_mem _ hz)) (l := t)
    by_cases hax : a = x
    · subst hax
      rw [List.filter_cons_of_neg (by simp [hp]), List.filter_cons_of_pos hq, List.length_cons]; omega
    · have hat : a ∈ t := (List.mem_cons.1 ha).resolve_left hax
      have h1 := filter_lt hp hq (fun z hz => h z (List.mem_cons_of_mem _ hz)) hat
      have h2 := h x List.mem_cons_self
      cases hpx : p x
      · rw [List.filter_cons_of_neg (by simp [hpx])]
        cases hqx : q x
        · rw [List.filter_cons_of_neg (by simp [hqx])]; exact h1
        · rw [List.filter_cons_of_pos hqx, List.length_cons]; omega
      · rw [List.filter_cons_of_pos hpx, List.filter_cons_of_pos (h2 hpx), List.length_cons, List.length_cons]; omega
theorem dom_rank {next : List (List Int)} (hr : InR next) (h0 : 0 < next.length) : ∃ rk : Int → Nat, (∀ k, rk k ≤ next.length) ∧ ∀ k d, Dom next k d → d ≠ k → rk d < rk k := by
  classical
  refine ⟨fun k => ((List.range next.length).filter (fun (e : Nat) => decide (Dom next k (e : Int)))).length, fun k => ?_, fun k d hd hne => ?_⟩
  · exact Nat.le_trans (List.length_filter_le _ _) (by simp)
  · have hk := hd.1.range (by omega) hr
    refine filter_lt (a := k.toNat) ?_ ?_ (fun e _ he => ?_) (List.mem_range.2 (by omega))
    · simp only [decide_eq_false_iff_not]
      intro h
      rw [show ((k.toNat : Nat) : Int) = k by omega] at h
      exact hne (Dom.antisymm hd h)
    · simp only [decide_eq_true_eq]
      rw [show ((k.toNat : Nat) : Int) = k by omega]
      exact ⟨hd.1, hd.1, fun h => h.ok_of rfl⟩
    · simp only [decide_eq_true_eq] at he ⊢
      exact hd.trans he
/-- How a value comes to be: the step that sets it, or of a param its part and place. -/
structure Df where
  step : Fl
  part : Int
  at_ : Int
deriving DecidableEq
def fl0 : Fl := ⟨0, 0, 0, 0, 0, 0⟩
def df0 : Df := ⟨fl0, -1, 0⟩
def dfParam (q : Nat) (D : List Df) (l : List Int) (j : Nat) : List Df := (List.range j).foldl (fun D i => D.set (l.getD i 0).toNat ⟨fl0, q, i⟩) D
def dfStep (D : List Df) (x : Fl) : List Df := if setsS x then D.set x.dst.toNat ⟨x, -1, 0⟩ else D
def dfCode (D : List Df) (l : List Fl) : List Df := l.foldl dfStep D
def dfPart (q : Nat) (D : List Df) (p : Pt) : List Df := dfCode (dfParam q D p.params p.params.length) p.code
def dfTo (s : Sa) (k : Nat) : List Df := (List.range k).foldl (fun D q => match s.parts[q]? with | some p => dfPart q D p | none => D) (List.replicate s.values.toNat df0)
def dfAll (s : Sa) : List Df := dfTo s s.parts.length
theorem dfTo_succ {s : Sa} {k : Nat} {p : Pt} (hk : s.parts[k]? = some p) : dfTo s (k + 1) = dfPart k (dfTo s k) p := by
  unfold dfTo
  rw [List.range_succ, List.foldl_append]
  simp [hk]
theorem dfParam_succ {q : Nat} {D : List Df} {l : List Int} {j : Nat} : dfParam q D l (j + 1) = (dfParam q D l j).set (l.getD j 0).toNat ⟨fl0, q, j⟩ := by
  unfold dfParam
  rw [List.range_succ, List.foldl_append]
  rfl
theorem dfCode_take {D : List Df} {l : List Fl} {j : Nat} (hj : j < l.length) : dfCode D (l.take (j + 1)) = dfStep (dfCode D (l.take j)) l[j] := by
  unfold dfCode
  rw [List.take_succ_eq_append_getElem hj, List.foldl_append]
  rfl
/-- What is handed for a param: by one part, by all. -/
def handP (p : Pt) (q i : Int) (m : Nat) : List Int := (List.range m).flatMap (fun w => if p.next.getD w 0 = q then [(p.args.getD w []).getD i.toNat 0] else [])
def handS (l : List Pt) (q i : Int) : List Int := l.flatMap (fun p => handP p q i p.next.length)
theorem handP_succ (p : Pt) (q i : Int) (m : Nat) : handP p q i (m + 1) = handP p q i m ++ (if p.next.getD m 0 = q then [(p.args.getD m []).getD i.toNat 0] else []) := by
  unfold handP
  rw [List.range_succ, List.flatMap_append]
  simp
theorem handS_take {l : List Pt} {k : Nat} (hk : k < l.length) (q i : Int) : handS (l.take (k + 1)) q i = handS (l.take k) q i ++ handP l[k] q i l[k].next.length := by
  unfold handS
  rw [List.take_succ_eq_append_getElem hk, List.flatMap_append]
  simp
theorem handP_len (p : Pt) (q i : Int) (m : Nat) : (handP p q i m).length ≤ m := by
  induction m with
  | zero => simp [handP]
  | succ m ih => rw [handP_succ, List.length_append]; split <;> simp <;> omega
theorem handS_len {l : List Pt} {q i : Int} {B : Nat} (h : ∀ p ∈ l, p.next.length ≤ B) : (handS l q i).length ≤ l.length * B := by
  induction l with
  | nil => simp [handS]
  | cons p t ih =>
    have h1 := ih (fun r hr => h r (List.mem_cons_of_mem _ hr))
    have h2 := handP_len p q i p.next.length
    have h3 := h p List.mem_cons_self
    have e : handS (p :: t) q i = handP p q i p.next.length ++ handS t q i := by unfold handS; rw [List.flatMap_cons]
    rw [e, List.length_append, List.length_cons, Nat.succ_mul]
    omega
theorem mem_handS {l : List Pt} {q i v : Int} (h : v ∈ handS l q i) : ∃ p ∈ l, ∃ w, w < p.next.length ∧ p.next.getD w 0 = q ∧ v = (p.args.getD w []).getD i.toNat 0 := by
  unfold handS at h
  obtain ⟨p, hp, hv⟩ := List.mem_flatMap.1 h
  unfold handP at hv
  obtain ⟨w, hw, hv⟩ := List.mem_flatMap.1 hv
  split at hv
  · rename_i hq
    exact ⟨p, hp, w, List.mem_range.1 hw, hq, by simpa using hv⟩
  · simp at hv
/-- What the program keeps of a value. -/
structure Mkr where
  kind : Int
  n : Int
  uses : List Int
  copy : Int
deriving DecidableEq
def mk0 (v : Nat) : Mkr := if 8 ≤ v ∧ v < 12 then ⟨1, 0, [], -1⟩ else ⟨0, v, [], -1⟩
def mkParam (s : Sa) (q : Nat) (M : List Mkr) (l : List Int) (j : Nat) : List Mkr := (List.range j).foldl (fun M i => M.set (l.getD i 0).toNat ⟨3, q, handS s.parts q i, -1⟩) M
def mkStep (M : List Mkr) (x : Fl) : List Mkr :=
  if x.op = 1 then M.set x.dst.toNat ⟨1, x.n, [], -1⟩ else if x.op = 3 then M.set x.dst.toNat ⟨2, x.dO, [x.a, x.b], -1⟩ else if x.op = 2 then M.set x.dst.toNat { M.getD x.dst.toNat (mk0 0) with copy := x.a } else M
def mkCode (M : List Mkr) (l : List Fl) : List Mkr := l.foldl mkStep M
def mkPart (s : Sa) (q : Nat) (M : List Mkr) (p : Pt) : List Mkr := mkCode (mkParam s q M p.params p.params.length) p.code
def mkTo (s : Sa) (k : Nat) : List Mkr := (List.range k).foldl (fun M q => match s.parts[q]? with | some p => mkPart s q M p | none => M) ((List.range s.values.toNat).map mk0)
theorem mkTo_succ {s : Sa} {k : Nat} {p : Pt} (hk : s.parts[k]? = some p) : mkTo s (k + 1) = mkPart s k (mkTo s k) p := by
  unfold mkTo
  rw [List.range_succ, List.foldl_append]
  simp [hk]
theorem mkParam_succ {s : Sa} {q : Nat} {M : List Mkr} {l : List Int} {j : Nat} : mkParam s q M l (j + 1) = (mkParam s q M l j).set (l.getD j 0).toNat ⟨3, q, handS s.parts q j, -1⟩ := by
  unfold mkParam
  rw [List.range_succ, List.foldl_append]
  rfl
theorem mkCode_take {M : List Mkr} {l : List Fl} {j : Nat} (hj : j < l.length) : mkCode M (l.take (j + 1)) = mkStep (mkCode M (l.take j)) l[j] := by
  unfold mkCode
  rw [List.take_succ_eq_append_getElem hj, List.foldl_append]
  rfl
/-- The one by the other. -/
def mkOf (s : Sa) (v : Nat) (d : Df) : Mkr :=
  if 0 ≤ d.part then ⟨3, d.part, handS s.parts d.part d.at_, -1⟩ else if d.step.op = 1 then ⟨1, d.step.n, [], -1⟩ else if d.step.op = 3 then ⟨2, d.step.dO, [d.step.a, d.step.b], -1⟩ else if d.step.op = 2 then { mk0 v with copy := d.step.a } else mk0 v
theorem mkOf_df0 (s : Sa) (v : Nat) : mkOf s v df0 = mk0 v := by unfold mkOf df0 fl0; simp
/-- The two tables in step: L has come to be so far. -/
structure Both (s : Sa) (L : List Int) (M : List Mkr) (D : List Df) : Prop where
  lm : M.length = s.values.toNat
  ld : D.length = s.values.toNat
  eq : ∀ v, v < s.values.toNat → M.getD v (mk0 0) = mkOf s v (D.getD v df0)
  fresh : ∀ v, v < s.values.toNat → (v : Int) ∉ L → D.getD v df0 = df0
theorem getD_set2g {α : Type} {D : List α} {m n : Nat} {k z : α} (hm : m < D.length) : (D.set m k).getD n z = if n = m then k else D.getD n z := by
  rw [List.getD_eq_getElem?_getD, List.getElem?_set, List.getD_eq_getElem?_getD]
  by_cases h : m = n
  · subst h; rw [if_pos rfl, if_pos hm, if_pos rfl]; rfl
  · rw [if_neg h, if_neg (fun h' => h h'.symm)]
theorem Both.set {s : Sa} {L : List Int} {M : List Mkr} {D : List Df} (h : Both s L M D) {a : Int} (ha : 0 ≤ a ∧ a < s.values) {d : Df} {m : Mkr} (hm : m = mkOf s a.toNat d) : Both s (L ++ [a]) (M.set a.toNat m) (D.set a.toNat d) := by
  have hl : a.toNat < s.values.toNat := by omega
  refine ⟨by rw [List.length_set]; exact h.lm, by rw [List.length_set]; exact h.ld, fun v hv => ?_, fun v hv hn => ?_⟩
  · rw [getD_set2g (by rw [h.lm]; exact hl), getD_set2g (by rw [h.ld]; exact hl)]
    by_cases hva : v = a.toNat
    · rw [if_pos hva, if_pos hva, hva]; exact hm
    · rw [if_neg hva, if_neg hva]; exact h.eq v hv
  · rw [getD_set2g (by rw [h.ld]; exact hl)]
    have h1 : v ≠ a.toNat := fun he => hn (List.mem_append.2 (.inr (by rw [he]; simp; omega)))
    rw [if_neg h1]
    exact h.fresh v hv (fun hL => hn (List.mem_append.2 (.inl hL)))
theorem Both.keep {s : Sa} {L : List Int} {M : List Mkr} {D : List Df} (h : Both s L M D) {a : Int} (ha : 0 ≤ a ∧ a < s.values) {d : Df} (hm : M.getD a.toNat (mk0 0) = mkOf s a.toNat d) : Both s (L ++ [a]) M (D.set a.toNat d) := by
  have hl : a.toNat < s.values.toNat := by omega
  have := h.set ha hm
  have e : M.set a.toNat (M.getD a.toNat (mk0 0)) = M := by
    rw [List.getD_eq_getElem?_getD, List.getElem?_eq_getElem (by rw [h.lm]; exact hl)]
    exact List.set_getElem_self _
  rwa [e] at this
theorem Both.params {s : Sa} {q : Nat} {l : List Int} (hl : ∀ v ∈ l, 0 ≤ v ∧ v < s.values) {L : List Int} {M : List Mkr} {D : List Df} (h : Both s L M D) : ∀ j, j ≤ l.length → Both s (L ++ l.take j) (mkParam s q M l j) (dfParam q D l j) := by
  intro j
  induction j with
  | zero => intro _; simpa [mkParam, dfParam] using h
  | succ j ih =>
    intro hj
    have hjl : j < l.length := by omega
    have e : l.getD j 0 = l[j] := by rw [List.getD_eq_getElem?_getD, List.getElem?_eq_getElem hjl]; rfl
    rw [mkParam_succ, dfParam_succ, List.take_succ_eq_append_getElem hjl, ← List.append_assoc, e]
    refine (ih (by omega)).set (hl _ (List.getElem_mem hjl)) ?_
    unfold mkOf
    simp
theorem Both.code {s : Sa} : ∀ {l : List Fl} (hl : ∀ x ∈ l, setsS x = true → 12 ≤ x.dst ∧ x.dst < s.values) {L : List Int} {M : List Mkr} {D : List Df} (hn : (dstsS l).Nodup) (hL : ∀ v ∈ dstsS l, v ∉ L) (h : Both s L M D), Both s (L ++ dstsS l) (mkCode M l) (dfCode D l)
  | [], _, L, M, D, _, _, h => by simpa [dstsS, mkCode, dfCode] using h
  | x :: t, hl, L, M, D, hn, hL, h => by
    have hx := hl x List.mem_cons_self
    have hops : setsS x = true → x.op = 1 ∨ x.op = 2 ∨ x.op = 3 ∨ x.op = 4 := by unfold setsS inB; simp; omega
    have hnot : setsS x = false → x.op ≠ 1 ∧ x.op ≠ 3 ∧ x.op ≠ 2 := by unfold setsS inB; simp; omega
    show Both s (L ++ dstsS (x :: t)) (mkCode (mkStep M x) t) (dfCode (dfStep D x) t)
    unfold dstsS at hn hL ⊢
    rw [List.filter_cons] at hn hL ⊢
    unfold dfStep
    cases hs : setsS x
    · rw [hs] at hn hL
      obtain ⟨o1, o3, o2⟩ := hnot hs
      simp only [Bool.false_eq_true, if_false] at hn hL ⊢
      have e : mkStep M x = M := by unfold mkStep; rw [if_neg o1, if_neg o3, if_neg o2]
      rw [e]
      exact Both.code (fun y hy => hl y (List.mem_cons_of_mem _ hy)) hn hL h
    · rw [hs] at hn hL
      simp only [if_true, List.map_cons] at hn hL ⊢
      have hd := hx hs
      have hd0 : 0 ≤ x.dst ∧ x.dst < s.values := ⟨by omega, hd.2⟩
      obtain ⟨hn1, hn2⟩ := List.nodup_cons.1 hn
      have hfr := h.fresh x.dst.toNat (by omega) (by rw [show ((x.dst.toNat : Nat) : Int) = x.dst by omega]; exact hL _ List.mem_cons_self)
      have hmd := h.eq x.dst.toNat (by omega)
      rw [hfr, mkOf_df0] at hmd
      have key : Both s (L ++ [x.dst]) (mkStep M x) (D.set x.dst.toNat ⟨x, -1, 0⟩) := by
        unfold mkStep
        rcases hops hs with o | o | o | o
        · rw [if_pos o]
          exact h.set hd0 (by unfold mkOf; simp [o])
        · rw [if_neg (by omega), if_neg (by omega), if_pos o]
          exact h.set hd0 (by rw [hmd]; unfold mkOf; simp [o])
        · rw [if_neg (by omega), if_pos o]
          exact h.set hd0 (by unfold mkOf; simp [o])
        · rw [if_neg (by omega), if_neg (by omega), if_neg (by omega)]
          exact h.keep hd0 (by rw [hmd]; unfold mkOf; simp [o])
      have := Both.code (l := t) (fun y hy => hl y (List.mem_cons_of_mem _ hy)) hn2 (fun v hv hm => by
        rcases List.mem_append.1 hm with hm | hm
        · exact hL v (List.mem_cons_of_mem _ hv) hm
        · rw [List.mem_singleton.1 hm] at hv; exact hn1 hv) key
      rw [List.append_assoc] at this
      exact this
theorem both_to {s : Sa} (h : GoodP s) : ∀ k, k ≤ s.parts.length → Both s ((s.parts.take k).flatMap ownS) (mkTo s k) (dfTo s k) := by
  intro k
  induction k with
  | zero =>
    intro _
    refine ⟨by simp [mkTo], by simp [dfTo], fun v hv => ?_, fun v hv _ => ?_⟩
    · have e1 : (mkTo s 0).getD v (mk0 0) = mk0 v := by simp [mkTo, List.getD_eq_getElem?_getD, hv]
      have e2 : (dfTo s 0).getD v df0 = df0 := by simp [dfTo, List.getD_eq_getElem?_getD, hv]
      rw [e1, e2, mkOf_df0]
    · simp [dfTo, List.getD_eq_getElem?_getD, hv]
  | succ k ih =>
    intro hk
    have hkl : k < s.parts.length := by omega
    have hp : s.parts[k]? = some s.parts[k] := List.getElem?_eq_getElem hkl
    have hm := List.getElem_mem hkl
    rw [mkTo_succ hp, dfTo_succ hp, List.take_succ_eq_append_getElem hkl, List.flatMap_append]
    have hb := ih (by omega)
    have hnd := h.own_nodup hm
    have hown := fun v (hv : v ∈ ownS s.parts[k]) => h.own_def hp hv
    have hout : ∀ v ∈ ownS s.parts[k], v ∉ (s.parts.take k).flatMap ownS := by
      intro v hv hh
      obtain ⟨r, hr, hvr⟩ := List.mem_flatMap.1 hh
      obtain ⟨j, hj, rfl⟩ := List.mem_take_iff_getElem.1 hr
      have h1 := (h.own_def (q := j) (List.getElem?_eq_getElem (by omega)) hvr).2.2
      have h2 := (hown v hv).2.2
      rw [h1] at h2
      omega
    have hn2 := List.nodup_append.1 hnd
    have hp1 := hb.params (q := k) (l := s.parts[k].params) (fun v hv => by have := hown v (List.mem_append.2 (.inl hv)); omega) s.parts[k].params.length (Nat.le_refl _)
    rw [List.take_length] at hp1
    have hp2 := Both.code (l := s.parts[k].code) (fun x hx hs => by
      have hd : x.dst ∈ dstsS s.parts[k].code := List.mem_map.2 ⟨x, List.mem_filter.2 ⟨hx, hs⟩, rfl⟩
      have := hown x.dst (List.mem_append.2 (.inr hd)); omega) hn2.2.1 (fun v hv hmm => by
      rcases List.mem_append.1 hmm with hmm | hmm
      · exact hout v (List.mem_append.2 (.inr hv)) hmm
      · exact hn2.2.2 v hmm v hv rfl) hp1
    have e : [s.parts[k]].flatMap ownS = s.parts[k].params ++ dstsS s.parts[k].code := by simp [ownS]
    rw [e, ← List.append_assoc]
    exact hp2
/-- Where each comes from. -/
def DfOk (s : Sa) (v : Nat) (d : Df) : Prop :=
  d = df0 ∨ (∃ (q : Nat) (p : Pt) (i : Nat), s.parts[q]? = some p ∧ p.params[i]? = some (v : Int) ∧ d = ⟨fl0, q, i⟩) ∨
    (∃ (q : Nat) (p : Pt) (j : Nat) (x : Fl), s.parts[q]? = some p ∧ p.code[j]? = some x ∧ setsS x = true ∧ x.dst = v ∧ d = ⟨x, -1, 0⟩)
theorem dfOk_params {s : Sa} {q : Nat} {p : Pt} (hq : s.parts[q]? = some p) (hl : ∀ v ∈ p.params, 0 ≤ v ∧ v < s.values) {D : List Df} (hD : D.length = s.values.toNat) (h : ∀ v, v < s.values.toNat → DfOk s v (D.getD v df0)) : ∀ j, j ≤ p.params.length → (dfParam q D p.params j).length = s.values.toNat ∧ ∀ v, v < s.values.toNat → DfOk s v ((dfParam q D p.params j).getD v df0) := by
  intro j
  induction j with
  | zero => intro _; exact ⟨hD, h⟩
  | succ j ih =>
    intro hj
    obtain ⟨h1, h2⟩ := ih (by omega)
    have hjl : j < p.params.length := by omega
    have e : p.params.getD j 0 = p.params[j] := by rw [List.getD_eq_getElem?_getD, List.getElem?_eq_getElem hjl]; rfl
    have hv := hl _ (List.getElem_mem hjl)
    rw [dfParam_succ, e]
    refine ⟨by rw [List.length_set]; exact h1, fun v hvv => ?_⟩
    rw [getD_set2g (by omega)]
    split
    · rename_i hva
      exact .inr (.inl ⟨q, p, j, hq, by rw [List.getElem?_eq_getElem hjl, hva]; simp; omega, rfl⟩)
    · exact h2 v hvv
theorem dfOk_code {s : Sa} {q : Nat} {p : Pt} (hq : s.parts[q]? = some p) (hl : ∀ x ∈ p.code, setsS x = true → 0 ≤ x.dst ∧ x.dst < s.values) {D : List Df} (hD : D.length = s.values.toNat) (h : ∀ v, v < s.values.toNat → DfOk s v (D.getD v df0)) : ∀ j, j ≤ p.code.length → (dfCode D (p.code.take j)).length = s.values.toNat ∧ ∀ v, v < s.values.toNat → DfOk s v ((dfCode D (p.code.take j)).getD v df0) := by
  intro j
  induction j with
  | zero => intro _; exact ⟨hD, h⟩
  | succ j ih =>
    intro hj
    obtain ⟨h1, h2⟩ := ih (by omega)
    have hjl : j < p.code.length := by omega
    rw [dfCode_take hjl]
    unfold dfStep
    split
    · rename_i hs
      have hv := hl _ (List.getElem_mem hjl) hs
      refine ⟨by rw [List.length_set]; exact h1, fun v hvv => ?_⟩
      rw [getD_set2g (by omega)]
      split
      · rename_i hva
        exact .inr (.inr ⟨q, p, j, p.code[j], hq, List.getElem?_eq_getElem hjl, hs, by omega, rfl⟩)
      · exact h2 v hvv
    · exact ⟨h1, h2⟩
theorem dfOk_to {s : Sa} (h : GoodP s) : ∀ k, k ≤ s.parts.length → (dfTo s k).length = s.values.toNat ∧ ∀ v, v < s.values.toNat → DfOk s v ((dfTo s k).getD v df0) := by
  intro k
  induction k with
  | zero =>
    intro _
    refine ⟨by simp [dfTo], fun v hv => ?_⟩
    have e2 : (dfTo s 0).getD v df0 = df0 := by simp [dfTo, List.getD_eq_getElem?_getD, hv]
    rw [e2]; exact .inl rfl
  | succ k ih =>
    intro hk
    have hkl : k < s.parts.length := by omega
    have hp : s.parts[k]? = some s.parts[k] := List.getElem?_eq_getElem hkl
    obtain ⟨h1, h2⟩ := ih (by omega)
    rw [dfTo_succ hp]
    have hown := fun v (hv : v ∈ ownS s.parts[k]) => h.own_def hp hv
    obtain ⟨h3, h4⟩ := dfOk_params hp (fun v hv => by have := hown v (List.mem_append.2 (.inl hv)); omega) h1 h2 _ (Nat.le_refl _)
    have := dfOk_code hp (fun x hx hs => by
      have hd : x.dst ∈ dstsS s.parts[k].code := List.mem_map.2 ⟨x, List.mem_filter.2 ⟨hx, hs⟩, rfl⟩
      have := hown x.dst (List.mem_append.2 (.inr hd)); omega) h3 h4 _ (Nat.le_refl _)
    rwa [List.take_length] at this
end Go.Proofs.YtnfaibenekninaaGreat.L

set_option linter.unusedVariables false
set_option linter.unusedSimpArgs false
namespace Go.Proofs.YtnfaibenekninaaGreat.L
open Go.RowKit
theorem GoodP.own_len {s : Sa} (h : GoodP s) {p : Pt} (hp : p ∈ s.parts) : (ownS p).length ≤ 250 := by
  obtain ⟨q, hq, hqe⟩ := List.getElem_of_mem hp
  have hq' : s.parts[q]? = some p := by rw [List.getElem?_eq_getElem hq, hqe]
  exact len_nodup_range (h.own_nodup hp) (fun x hx => by have := h.own_def hq' hx; have := h.v2; omega)
theorem usesS_in {x : Fl} (hs : x.op = 2 ∨ x.op = 3) : x.a ∈ usesS x ∧ (x.op = 3 → x.b ∈ usesS x) := by
  unfold usesS
  rcases hs with h | h <;> simp [h]
/-- The args of a part for a param's place are there. -/
theorem fitS_get {parts : List Pt} : ∀ {ks : List Int} {l : List (List Int)}, fitS parts ks l = true → ∀ w, w < ks.length → ∃ q, parts[(ks.getD w 0).toNat]? = some q ∧ (l.getD w []).length = q.params.length
  | [], [], _, w, hw => by simp at hw
  | [], _ :: _, h, _, _ => by simp [fitS] at h
  | _ :: _, [], h, _, _ => by simp [fitS] at h
  | k :: ks, b :: l, h, w, hw => by
    simp only [fitS, Bool.and_eq_true] at h
    cases w with
    | zero =>
      cases hq : parts[k.toNat]? with
      | none => rw [hq] at h; simp at h
      | some q =>
        rw [hq] at h
        exact ⟨q, by simpa using hq, by simpa using h.1⟩
    | succ w =>
      have := fitS_get h.2 w (by simpa using hw)
      simpa using this
theorem GoodP.edge {s : Sa} (h : GoodP s) {p : Pt} (hp : p ∈ s.parts) {w : Nat} (hw : w < p.next.length) : w < p.args.length ∧ ∃ q, s.parts[(p.next.getD w 0).toNat]? = some q ∧ (p.args.getD w []).length = q.params.length := by
  have hs := h.static hp
  refine ⟨Nat.lt_of_lt_of_le hw (static_args hs), ?_⟩
  have ha := hs
  unfold staticI at ha
  simp only [Bool.and_eq_true] at ha
  obtain ⟨⟨⟨hc, hg⟩, h0⟩, ha⟩ := ha
  unfold argsS at ha
  split at ha
  · rename_i h3
    unfold goB at hg
    simp only [Bool.and_eq_true] at hg
    have hg := hg.2
    rw [beq_iff_eq] at h3
    rw [h3] at hg
    have h0 : p.next.length = 0 := by simpa using hg
    omega
  · exact fitS_get ha w hw
theorem GoodP.handed {s : Sa} (h : GoodP s) {q : Nat} {p : Pt} (hq : s.parts[q]? = some p) {i : Nat} (hi : i < p.params.length) : ∀ v ∈ handS s.parts q i, 0 ≤ v ∧ v < s.values := by
  intro v hv
  obtain ⟨r, hr, w, hw, hn, rfl⟩ := mem_handS hv
  obtain ⟨ha, t, ht, hl⟩ := h.edge hr hw
  rw [hn] at ht
  have e : t = p := by
    rw [show ((q : Int)).toNat = q by omega, hq] at ht
    exact (Option.some.inj ht).symm
  subst e
  obtain ⟨k, hk, hke⟩ := List.getElem_of_mem hr
  refine h.use_in (q := k) (p := r) (by rw [List.getElem?_eq_getElem hk, hke]) (.inl ?_)
  unfold endsS
  have e1 : r.args.getD w [] = r.args[w] := by rw [List.getD_eq_getElem?_getD, List.getElem?_eq_getElem ha]; rfl
  rw [e1] at hl ⊢
  have hi2 : ((i : Int)).toNat < r.args[w].length := by omega
  refine List.mem_append.2 (.inr (List.mem_flatten.2 ⟨r.args[w], List.getElem_mem ha, ?_⟩))
  rw [List.getD_eq_getElem?_getD, List.getElem?_eq_getElem hi2]
  exact List.getElem_mem hi2
/-- A value's rank: copies are of values of lower rank. -/
structure Ranked (n : Nat) (D : List Df) (rank : Nat → Nat) : Prop where
  lt : ∀ v, v < n → rank v < 20000
  cp : ∀ v, v < n → (D.getD v df0).step.op = 2 → 0 ≤ (D.getD v df0).step.a ∧ (D.getD v df0).step.a.toNat < n ∧ rank (D.getD v df0).step.a.toNat < rank v
theorem idx_far {far rest : List Int} {a v : Int} (h : (far ++ rest).Nodup) (ha : a ∈ far) (hv : v ∈ rest) : (far ++ rest).idxOf a < (far ++ rest).idxOf v := by
  have hvf : v ∉ far := fun hh => (List.nodup_append.1 h).2.2 v hh v hv rfl
  rw [List.idxOf_append, if_pos ha, List.idxOf_append, if_neg hvf]
  have := List.idxOf_lt_length_of_mem ha
  omega
theorem rank_ex {s : Sa} (h : GoodP s) : ∃ rank : Nat → Nat, Ranked s.values.toNat (dfAll s) rank := by
  have hgl := graphS_len s.parts
  have hn1 := h.n1
  have hn2 := h.n2
  have hv1 := h.v1
  obtain ⟨rk, hr1, hr2⟩ := dom_rank (next := graphS s.parts) (graphS_inR h.nx) (by omega)
  obtain ⟨hdl, hdf⟩ := dfOk_to h s.parts.length (Nat.le_refl _)
  have hidx : ∀ (q : Nat) (p : Pt) (v : Int), s.parts[q]? = some p → (ownS p).idxOf v ≤ 250 := fun q p v hq => Nat.le_trans List.idxOf_le_length (h.own_len (List.mem_of_getElem? hq))
  have hdef : ∃ df : Nat → Int, df = fun v => ((defsS s).getD [])[v]! := ⟨_, rfl⟩
  obtain ⟨df, hdfe⟩ := hdef
  refine ⟨fun v => if v < 12 then 0 else match s.parts[(df v).toNat]? with | some p => 1 + rk (df v) * 1000 + (ownS p).idxOf (v : Int) | none => 0, fun v hv => ?_, fun v hv hop => ?_⟩
  · split
    · omega
    · split
      · rename_i p hp
        have h1 := hr1 (df v)
        have h2 := hidx _ p v hp
        have h3 : rk (df v) * 1000 ≤ 11 * 1000 := Nat.mul_le_mul_right _ (by omega)
        omega
      · omega
  · rcases hdf v hv with hd | ⟨q, p, i, hq, hi, hd⟩ | ⟨q, p, j, x, hq, hj, hs, hx, hd⟩
    · unfold dfAll at hop; rw [hd] at hop; simp [df0, fl0] at hop
    · unfold dfAll at hop; rw [hd] at hop; simp [fl0] at hop
    · unfold dfAll at hop ⊢
      rw [hd] at hop ⊢
      dsimp only at hop ⊢
      have hva : v = x.dst.toNat := by omega
      have hdm : x.dst ∈ dstsS p.code := List.mem_map.2 ⟨x, List.mem_filter.2 ⟨List.mem_of_getElem? hj, hs⟩, rfl⟩
      have hov : x.dst ∈ ownS p := List.mem_append.2 (.inr hdm)
      obtain ⟨hd1, hd2, hd3⟩ := h.own_def hq hov
      have hdv : df v = q := by rw [hdfe, hva]; exact hd3
      have hau := (usesS_in (x := x) (.inl hop)).1
      obtain ⟨ha0, ha1, ht⟩ := (h.us q p hq).code j x hj x.a hau
      have hdlen := h.defs_len
      refine ⟨ha0, by omega, ?_⟩
      have hvr : ¬ v < 12 := by omega
      have hqn : (((q : Nat) : Int)).toNat = q := by omega
      rw [if_neg hvr, hdv, hqn, hq]
      dsimp only
      by_cases ha12 : x.a.toNat < 12
      · rw [if_pos ha12]; omega
      · rw [if_neg ha12]
        have hda : df x.a.toNat = ((defsS s).getD [])[x.a.toNat]! := by rw [hdfe]
        have hca : ((x.a.toNat : Nat) : Int) = x.a := by omega
        have hcv : ((v : Nat) : Int) = x.dst := hx.symm
        rw [hca, hcv]
        rcases ht with ht | ht | ⟨ht1, ht2, ht3⟩
        · omega
        · have hoa : x.a ∈ ownS p := by
            rcases List.mem_append.1 ht with h1 | h1
            · exact List.mem_append.2 (.inl h1)
            · unfold dstsS at h1
              obtain ⟨y, hy, he⟩ := List.mem_map.1 h1
              obtain ⟨hy1, hy2⟩ := List.mem_filter.1 hy
              exact List.mem_append.2 (.inr (List.mem_map.2 ⟨y, List.mem_filter.2 ⟨List.mem_of_mem_take hy1, hy2⟩, he⟩))
          have h3 := (h.own_def hq hoa).2.2
          rw [hda, h3, hqn, hq]
          dsimp only
          have hjl := (List.getElem?_eq_some_iff.1 hj).1
          have hjx := (List.getElem?_eq_some_iff.1 hj).2
          have hsplit : ownS p = (p.params ++ dstsS (p.code.take j)) ++ dstsS (p.code.drop j) := by
            unfold ownS
            rw [List.append_assoc]
            congr 1
            unfold dstsS
            rw [← List.map_append, ← List.filter_append, List.take_append_drop]
          have hvd : x.dst ∈ dstsS (p.code.drop j) := by
            refine List.mem_map.2 ⟨x, List.mem_filter.2 ⟨?_, hs⟩, rfl⟩
            rw [List.drop_eq_getElem_cons hjl, hjx]
            exact List.mem_cons_self
          have hnd := h.own_nodup (List.mem_of_getElem? hq)
          rw [hsplit] at hnd ⊢
          have := idx_far hnd ht hvd
          omega
        · rw [hda]
          have hlt := hr2 _ _ ht3 ht2
          have h5 : rk (((defsS s).getD [])[x.a.toNat]!) * 1000 + 1000 ≤ rk (q : Int) * 1000 := by
            have : (rk (((defsS s).getD [])[x.a.toNat]!) + 1) * 1000 ≤ rk (q : Int) * 1000 := Nat.mul_le_mul_right _ hlt
            rw [Nat.add_mul] at this
            omega
          split
          · rename_i p' hp'
            have h6 := hidx _ p' x.a hp'
            omega
          · omega
def rootF (D : List Df) : Nat → Nat → Nat
  | 0, v => v
  | f + 1, v => if (D.getD v df0).step.op = 2 then rootF D f (D.getD v df0).step.a.toNat else v
def rootD (D : List Df) (v : Nat) : Nat := rootF D (20000 + D.length) v
theorem rootD_eq (D : List Df) (v : Nat) : rootD D v = rootF D ((19999 + D.length) + 1) v := by
  unfold rootD
  rw [show 20000 + D.length = (19999 + D.length) + 1 by omega]
section
variable {n : Nat} {D : List Df} {rank : Nat → Nat}
theorem rootF_fuel (h : Ranked n D rank) : ∀ (f g v : Nat), v < n → rank v < f → rank v < g → rootF D f v = rootF D g v := by
  intro f
  induction f with
  | zero => intro g v _ hf; omega
  | succ f ih =>
    intro g v hv hf hg
    cases g with
    | zero => omega
    | succ g =>
      rw [rootF, rootF]
      split
      · rename_i hop
        obtain ⟨_, h2, h3⟩ := h.cp v hv hop
        exact ih g _ h2 (by omega) (by omega)
      · rfl
theorem rootD_step (h : Ranked n D rank) {v : Nat} (hv : v < n) : rootD D v = if (D.getD v df0).step.op = 2 then rootD D (D.getD v df0).step.a.toNat else v := by
  have hl := h.lt v hv
  rw [rootD_eq, rootF]
  split
  · rename_i hop
    obtain ⟨_, h2, h3⟩ := h.cp v hv hop
    rw [rootD_eq]
    exact rootF_fuel h _ _ _ h2 (by omega) (by omega)
  · rfl
theorem rootD_self {v : Nat} (hop : (D.getD v df0).step.op ≠ 2) : rootD D v = v := by
  rw [rootD_eq, rootF, if_neg hop]
theorem rootD_spec (h : Ranked n D rank) : ∀ (f v : Nat), v < n → rank v < f → rootD D v < n ∧ (D.getD (rootD D v) df0).step.op ≠ 2 := by
  intro f
  induction f with
  | zero => intro v _ hf; omega
  | succ f ih =>
    intro v hv hf
    rw [rootD_step h hv]
    split
    · rename_i hop
      obtain ⟨_, h2, h3⟩ := h.cp v hv hop
      exact ih _ h2 (by omega)
    · rename_i hop
      exact ⟨hv, hop⟩
theorem rootD_lt (h : Ranked n D rank) {v : Nat} (hv : v < n) : rootD D v < n ∧ (D.getD (rootD D v) df0).step.op ≠ 2 := rootD_spec h _ v hv (Nat.lt_succ_self _)
theorem rootD_idem (h : Ranked n D rank) {v : Nat} (hv : v < n) : rootD D (rootD D v) = rootD D v := rootD_self (rootD_lt h hv).2
end
def sortD (D : List Df) (v : Nat) : Int × Int :=
  if v < 8 ∨ (D.getD v df0).step.op = 4 then (0, v) else if v < 12 then (1, 0) else if (D.getD v df0).step.op = 1 then (1, (D.getD v df0).step.n) else if (D.getD v df0).step.op = 3 then (2, (D.getD v df0).step.dO) else if 0 ≤ (D.getD v df0).part then (3, (D.getD v df0).part) else (0, v)
def partsD (s : Sa) (D : List Df) (v : Nat) : List Int :=
  if (D.getD v df0).step.op = 3 then [(D.getD v df0).step.a, (D.getD v df0).step.b] else if (D.getD v df0).part < 0 then [] else handS s.parts (D.getD v df0).part (D.getD v df0).at_
/-- What is known of a value's own way to be. -/
theorem df_cases {s : Sa} (h : GoodP s) {v : Nat} (hv : v < s.values.toNat) : ((dfAll s).getD v df0 = df0) ∨ (12 ≤ v ∧ ∃ (q : Nat) (p : Pt) (i : Nat), s.parts[q]? = some p ∧ i < p.params.length ∧ (dfAll s).getD v df0 = ⟨fl0, q, i⟩) ∨
    (12 ≤ v ∧ ∃ (x : Fl) (q : Nat) (p : Pt), s.parts[q]? = some p ∧ x ∈ p.code ∧ (x.op = 1 ∨ x.op = 2 ∨ x.op = 3 ∨ x.op = 4) ∧ (dfAll s).getD v df0 = ⟨x, -1, 0⟩) := by
  obtain ⟨hdl, hdf⟩ := dfOk_to h s.parts.length (Nat.le_refl _)
  rcases hdf v hv with hd | ⟨q, p, i, hq, hi, hd⟩ | ⟨q, p, j, x, hq, hj, hs, hx, hd⟩
  · exact .inl hd
  · obtain ⟨h1, h2⟩ := List.getElem?_eq_some_iff.1 hi
    have := (h.own_def hq (v := (v : Int)) (List.mem_append.2 (.inl (List.mem_of_getElem? hi)))).1
    exact .inr (.inl ⟨by omega, q, p, i, hq, h1, hd⟩)
  · have hdm : x.dst ∈ dstsS p.code := List.mem_map.2 ⟨x, List.mem_filter.2 ⟨List.mem_of_getElem? hj, hs⟩, rfl⟩
    have := (h.own_def hq (List.mem_append.2 (.inr hdm))).1
    refine .inr (.inr ⟨by omega, x, q, p, hq, List.mem_of_getElem? hj, ?_, hd⟩)
    unfold setsS inB at hs
    simp at hs; omega
theorem mk_own {s : Sa} (h : GoodP s) {v : Nat} (hv : v < s.values.toNat) (hop : ((dfAll s).getD v df0).step.op ≠ 2) : mkOf s v ((dfAll s).getD v df0) = ⟨(sortD (dfAll s) v).1, (sortD (dfAll s) v).2, partsD s (dfAll s) v, -1⟩ := by
  rcases df_cases h hv with hd | ⟨h12, q, p, i, hq, hi, hd⟩ | ⟨h12, x, q, p, hq, hx, ho, hd⟩
  · unfold sortD partsD
    rw [hd, mkOf_df0]
    unfold mk0 df0 fl0
    by_cases h1 : v < 8
    · rw [if_neg (by omega)]; simp [h1]
    · by_cases h2 : v < 12
      · rw [if_pos (by omega)]; simp [h1, h2]
      · rw [if_neg (by omega)]; simp [h1, h2]
  · unfold sortD partsD
    rw [hd]
    unfold mkOf fl0
    have h1 : ¬ v < 8 := by omega
    have h2 : ¬ v < 12 := by omega
    have h3 : ¬ ((q : Int) < 0) := by omega
    simp [h1, h2, h3]
  · rw [hd] at hop
    dsimp only at hop
    unfold sortD partsD
    rw [hd]
    unfold mkOf mk0
    have h1 : ¬ v < 8 := by omega
    have h2 : ¬ v < 12 := by omega
    have h4 : ¬ (8 ≤ v ∧ v < 12) := by omega
    rcases ho with ho | ho | ho | ho
    · simp [ho, h1, h2]
    · exact absurd ho hop
    · simp [ho, h1, h2]
    · simp [ho, h1, h2, h4]
theorem mk_copy {s : Sa} (h : GoodP s) {v : Nat} (hv : v < s.values.toNat) : (mkOf s v ((dfAll s).getD v df0)).copy = if ((dfAll s).getD v df0).step.op = 2 then ((dfAll s).getD v df0).step.a else -1 := by
  split
  · rename_i hop
    rcases df_cases h hv with hd | ⟨h12, q, p, i, hq, hi, hd⟩ | ⟨h12, x, q, p, hq, hx, ho, hd⟩
    · rw [hd] at hop; simp [df0, fl0] at hop
    · rw [hd] at hop; simp [fl0] at hop
    · rw [hd] at hop ⊢
      dsimp only at hop ⊢
      unfold mkOf
      simp [hop]
  · rename_i hop
    rw [mk_own h hv hop]
theorem sort_own {s : Sa} (h : GoodP s) {v w : Nat} (hv : v < s.values.toNat) (hop : ((dfAll s).getD v df0).step.op = 2) (he : sortD (dfAll s) v = sortD (dfAll s) w) : v = w := by
  rcases df_cases h hv with hd | ⟨h12, q, p, i, hq, hi, hd⟩ | ⟨h12, x, q, p, hq, hx, ho, hd⟩
  · rw [hd] at hop; simp [df0, fl0] at hop
  · rw [hd] at hop; simp [fl0] at hop
  · have e1 : sortD (dfAll s) v = (0, (v : Int)) := by
      rw [hd] at hop
      dsimp only at hop
      unfold sortD
      rw [hd]
      have h1 : ¬ v < 8 := by omega
      have h2 : ¬ v < 12 := by omega
      simp [hop, h1, h2]
    rw [e1] at he
    unfold sortD at he
    repeat' (split at he)
    all_goals (simp only [Prod.mk.injEq] at he; omega)
theorem grp_ok {s : Sa} (h : GoodP s) : Grp s.values.toNat (sortD (dfAll s)) (fun v => (partsD s (dfAll s) v).map Int.toNat) (rootD (dfAll s)) := by
  obtain ⟨rank, hR⟩ := rank_ex h
  have hv1 := h.v1
  have hv2 := h.v2
  refine ⟨by omega, fun v hv => ⟨(rootD_lt hR hv).1, rootD_idem hR hv⟩, fun v hv u hu => ?_, fun v w hv hw hr he => ?_⟩
  · obtain ⟨m, hm, rfl⟩ := List.mem_map.1 hu
    have hin : 0 ≤ m ∧ m < s.values := by
      unfold partsD at hm
      rcases df_cases h hv with hd | ⟨h12, q, p, i, hq, hi, hd⟩ | ⟨h12, x, q, p, hq, hx, ho, hd⟩
      · rw [hd] at hm; simp [df0, fl0] at hm
      · rw [hd] at hm
        have h3 : ¬ ((q : Int) < 0) := by omega
        simp [fl0, h3] at hm
        exact h.handed hq hi m hm
      · rw [hd] at hm
        by_cases h3 : x.op = 3
        · have hus := usesS_in (x := x) (.inr h3)
          simp [h3] at hm
          refine h.use_in hq (.inr (List.mem_flatMap.2 ⟨x, hx, ?_⟩))
          rcases hm with rfl | rfl
          · exact hus.1
          · exact hus.2 h3
        · simp [h3] at hm
    omega
  · refine sort_own h hv ?_ he
    refine Classical.byContradiction fun hop => hr (rootD_self hop)
theorem parts_in {s : Sa} (h : GoodP s) {v : Nat} (hv : v < s.values.toNat) : ∀ m ∈ partsD s (dfAll s) v, 0 ≤ m ∧ m < s.values := by
  intro m hm
  unfold partsD at hm
  rcases df_cases h hv with hd | ⟨h12, q, p, i, hq, hi, hd⟩ | ⟨h12, x, q, p, hq, hx, ho, hd⟩
  · rw [hd] at hm; simp [df0, fl0] at hm
  · rw [hd] at hm
    have h3 : ¬ ((q : Int) < 0) := by omega
    simp [fl0, h3] at hm
    exact h.handed hq hi m hm
  · rw [hd] at hm
    by_cases h3 : x.op = 3
    · have hu := usesS_in (x := x) (.inr h3)
      simp [h3] at hm
      refine h.use_in hq (.inr (List.mem_flatMap.2 ⟨x, hx, ?_⟩))
      rcases hm with rfl | rfl
      · exact hu.1
      · exact hu.2 h3
    · simp [h3] at hm
theorem handP_len_eq (p : Pt) (q i j : Int) (m : Nat) : (handP p q i m).length = (handP p q j m).length := by
  induction m with
  | zero => simp [handP]
  | succ m ih => rw [handP_succ, handP_succ, List.length_append, List.length_append, ih]; split <;> rfl
theorem handS_len_eq (l : List Pt) (q i j : Int) : (handS l q i).length = (handS l q j).length := by
  induction l with
  | nil => rfl
  | cons p t ih =>
    have e : ∀ i, handS (p :: t) q i = handP p q i p.next.length ++ handS t q i := fun i => by unfold handS; rw [List.flatMap_cons]
    rw [e, e, List.length_append, List.length_append, ih, handP_len_eq p q i j]
theorem sort_len {s : Sa} (h : GoodP s) {v w : Nat} (hv : v < s.values.toNat) (hw : w < s.values.toNat) (he : sortD (dfAll s) v = sortD (dfAll s) w) : (partsD s (dfAll s) v).length = (partsD s (dfAll s) w).length := by
  have key : ∀ v, v < s.values.toNat → (sortD (dfAll s) v = (0, (v : Int)) ∨ ((∃ n, sortD (dfAll s) v = (1, n)) ∧ partsD s (dfAll s) v = []) ∨ ((∃ n, sortD (dfAll s) v = (2, n)) ∧ (partsD s (dfAll s) v).length = 2) ∨ ∃ q i : Int, sortD (dfAll s) v = (3, q) ∧ partsD s (dfAll s) v = handS s.parts q i) := by
    intro v hv
    unfold sortD partsD
    rcases df_cases h hv with hd | ⟨h12, q, p, i, hq, hi, hd⟩ | ⟨h12, x, q, p, hq, hx, ho, hd⟩
    · rw [hd]
      unfold df0 fl0
      by_cases h1 : v < 8
      · left; simp [h1]
      · by_cases h2 : v < 12
        · right; left; simp [h1, h2]
        · left; simp [h1, h2]
    · rw [hd]
      have h1 : ¬ v < 8 := by omega
      have h2 : ¬ v < 12 := by omega
      have h3 : ¬ ((q : Int) < 0) := by omega
      right; right; right
      exact ⟨q, i, by simp [fl0, h1, h2], by simp [fl0, h3]⟩
    · rw [hd]
      have h1 : ¬ v < 8 := by omega
      have h2 : ¬ v < 12 := by omega
      rcases ho with ho | ho | ho | ho
      · right; left; simp [ho, h1, h2]
      · left; simp [ho, h1, h2]
      · right; right; left; simp [ho, h1, h2]
      · left; simp [ho]
  rcases key v hv with k1 | ⟨⟨a, k1⟩, k2⟩ | ⟨⟨a, k1⟩, k2⟩ | ⟨q, i, k1, k2⟩ <;> rcases key w hw with m1 | ⟨⟨b, m1⟩, m2⟩ | ⟨⟨b, m1⟩, m2⟩ | ⟨r, j, m1, m2⟩ <;> rw [k1, m1] at he <;> simp only [Prod.mk.injEq] at he
  all_goals first | (exfalso; omega) | skip
  · have : v = w := by omega
    rw [this]
  · rw [k2, m2]
  · rw [k2, m2]
  · rw [k2, m2, he.2]
    exact handS_len_eq _ _ _ _
end Go.Proofs.YtnfaibenekninaaGreat.L

set_option linter.unusedVariables false
set_option linter.unusedSimpArgs false
namespace Go.Proofs.YtnfaibenekninaaGreat.L
open Go.RowKit
/-- The row but for element k, whose cells are us; what the others lead to lies in F, and so does the row's block. -/
def HoleL {α : Type} (e : Nat) (r : Rp α) (w : World) (F : Nat → Prop) (g n c : Nat) (l : List α) (k : Nat) (us : List Value) : Prop :=
  ∃ (φ : Nat → Nat → Prop) (xs : List Value), w.ownsRow 0 e r.sz (.slice (some ⟨g, 0, none⟩) n c) n xs ∧ n = l.length ∧ k < n ∧ us.length = r.sz ∧ (xs.drop (k * r.sz)).take r.sz = us ∧ F g ∧ (∀ i q, φ i q → F q ∧ q ≠ g) ∧
    ∀ i x, i ≠ k → l[i]? = some x → r.K w (φ i) x ((xs.drop (i * r.sz)).take r.sz)
section
variable {α : Type} {e : Nat} {r : Rp α} {w w' : World} {F G : Nat → Prop} {g n c k : Nat} {l : List α} {us : List Value}
theorem Ow.holeL {ap : Bool} (h : Ow ap e r w F (.slice (some ⟨g, 0, none⟩) n c) l) (hk : k < l.length) :
    ∃ us, r.K w (fun q => F q ∧ q ≠ g) l[k] us ∧ HoleL e r w F g n c l k us := by
  obtain rfl := h.len_eq
  obtain ⟨φ, xs, h1, h2, h3, h4, h5⟩ := h
  have hg : F g := h2 g (by simp [Value.ownBlock])
  have h3' : ∀ i q, φ i q → F q ∧ q ≠ g := fun i q hq => ⟨(h3 i q hq).1, fun he => (h3 i q hq).2 (by simp [Value.ownBlock, he])⟩
  refine ⟨_, r.mono (fun q hq => h3' k q hq) (h5 k _ (List.getElem?_eq_getElem hk)), φ, xs, h1, rfl, hk, r.len (h5 k _ (List.getElem?_eq_getElem hk)), rfl, hg, h3', fun i x hi hx => h5 i x hx⟩
namespace HoleL
theorem mono (hF : ∀ q, F q → G q) (h : HoleL e r w F g n c l k us) : HoleL e r w G g n c l k us := by
  obtain ⟨φ, xs, h1, h2, h3, h4, h5, h6, h7, h9⟩ := h
  exact ⟨φ, xs, h1, h2, h3, h4, h5, hF _ h6, fun i q hq => ⟨hF _ (h7 i q hq).1, (h7 i q hq).2⟩, h9⟩
theorem move (hF : Same F w w') (h : HoleL e r w F g n c l k us) : HoleL e r w' F g n c l k us := by
  obtain ⟨φ, xs, h1, h2, h3, h4, h5, h6, h7, h9⟩ := h
  exact ⟨φ, xs, owns_move h1 (fun q hq => by have hq : g = q := by simpa [Value.ownBlock] using hq
                                             subst hq; exact hF _ h6 (owns_lt h1 (by simp [Value.ownBlock]))), h2, h3, h4, h5, h6, h7, fun i x hi hx => r.move (fun q hq hlt => hF q (h7 i q hq).1 hlt) (h9 i x hi hx)⟩
theorem below (hb : Below w.heap.size w w') (h : HoleL e r w F g n c l k us) : HoleL e r w' F g n c l k us := h.move (Same.of_below hb F)
theorem chg {A : Nat → Prop} (hb : Chg A w w') (hA : ∀ q, A q → ¬ F q) (h : HoleL e r w F g n c l k us) : HoleL e r w' F g n c l k us := h.move (hb.same (fun q hq ha => hA q ha hq))
theorem lt (h : HoleL e r w F g n c l k us) : F g ∧ g < w.heap.size := by
  obtain ⟨φ, xs, h1, h2, h3, h4, h5, h6, h7, h9⟩ := h
  exact ⟨h6, owns_lt h1 (by simp [Value.ownBlock])⟩
theorem len (h : HoleL e r w F g n c l k us) : n = l.length ∧ k < n ∧ us.length = r.sz := by
  obtain ⟨φ, xs, h1, h2, h3, h4, h5, h6, h7, h9⟩ := h
  exact ⟨h2, h3, h4⟩
theorem cell (h : HoleL e r w F g n c l k us) : (∀ j u, us[j]? = some u → w.cell? ⟨g, k * r.sz + j, none⟩ = some u) ∧ ∀ o, w.frozen? ⟨g, o, none⟩ = false := by
  obtain ⟨φ, xs, h1, h2, h3, h4, h5, h6, h7, h9⟩ := h
  refine ⟨fun j u hu => ?_, fun o => h1.frozenAt o⟩
  have hj : j < r.sz := by rw [← h4]; exact (List.getElem?_eq_some_iff.1 hu).1
  rw [← h5, List.getElem?_take, if_pos hj, List.getElem?_drop] at hu
  have hlt : k * r.sz + j < n * r.sz := by
    calc k * r.sz + j < k * r.sz + r.sz := by omega
      _ = (k + 1) * r.sz := by rw [Nat.succ_mul]
      _ ≤ n * r.sz := Nat.mul_le_mul_right _ h3
  rw [h1.cellAt _ hlt]
  exact hu
/-- A cell of the element is stored anew. -/
theorem set (h : HoleL e r w F g n c l k us) {j : Nat} (hj : j < r.sz) (u : Value) : HoleL e r (w.setCell ⟨g, k * r.sz + j, none⟩ u) F g n c l k (us.set j u) := by
  obtain ⟨φ, xs, h1, h2, h3, h4, h5, h6, h7, h9⟩ := h
  have hp := h1.stored (k * r.sz + j) u
  have hx := h1.1
  have hle : k * r.sz + r.sz ≤ n * r.sz := by
    calc k * r.sz + r.sz = (k + 1) * r.sz := by rw [Nat.succ_mul]
      _ ≤ n * r.sz := Nat.mul_le_mul_right _ h3
  refine ⟨φ, xs.set (k * r.sz + j) u, hp.1, h2, h3, by rw [List.length_set]; exact h4, ?_, h6, h7, fun i x hi hx' => ?_⟩
  · rw [← h5]
    apply List.ext_getElem?
    intro q
    rw [List.getElem?_take]
    by_cases hq : q < r.sz
    · rw [if_pos hq, List.getElem?_drop, List.getElem?_set, List.getElem?_set, List.getElem?_take, if_pos hq, List.getElem?_drop, List.length_take, List.length_drop]
      by_cases hjq : j = q
      · subst hjq
        rw [if_pos rfl, if_pos rfl, if_pos (by omega), if_pos (by omega)]
      · rw [if_neg (by omega), if_neg hjq]
    · rw [if_neg hq, List.getElem?_eq_none]
      rw [List.length_set, List.length_take]; omega
  · have hil : i < n := by rw [h2]; exact (List.getElem?_eq_some_iff.1 hx').1
    have he : ((xs.set (k * r.sz + j) u).drop (i * r.sz)).take r.sz = (xs.drop (i * r.sz)).take r.sz := by
      apply List.ext_getElem?
      intro q
      rw [List.getElem?_take, List.getElem?_take]
      by_cases hq : q < r.sz
      · rw [if_pos hq, if_pos hq, List.getElem?_drop, List.getElem?_drop, List.getElem?_set, if_neg]
        rcases Nat.lt_or_gt_of_ne hi with h | h
        · have : (i + 1) * r.sz ≤ k * r.sz := Nat.mul_le_mul_right _ h
          rw [Nat.succ_mul] at this; omega
        · have : (k + 1) * r.sz ≤ i * r.sz := Nat.mul_le_mul_right _ h
          rw [Nat.succ_mul] at this; omega
      · rw [if_neg hq, if_neg hq]
    rw [he]
    exact r.move (fun q hq hlt => heap_setCell_other w ⟨g, k * r.sz + j, none⟩ q u (fun he => (h7 i q hq).2 he)) (h9 i x hi hx')
/-- The element is put back, or another one in its place. -/
theorem close (h : HoleL e r w F g n c l k us) {y : α} (hy : r.K w G y us) (hG : ∀ q, G q → q ≠ g) : Ow false e r w (fun q => F q ∨ G q) (.slice (some ⟨g, 0, none⟩) n c) (l.set k y) := by
  obtain ⟨φ, xs, h1, h2, h3, h4, h5, h6, h7, h9⟩ := h
  subst h2
  refine ⟨fun i q => if i = k then G q else φ i q, xs, by rw [List.length_set]; exact h1, fun q hq => ?_, fun i q hq => ?_, (fun hh => by cases hh), fun i x hx => ?_⟩
  · have hq : g = q := by simpa [Value.ownBlock] using hq
    subst hq; exact .inl h6
  · have hn : q ≠ g → (Value.slice (some ⟨g, 0, none⟩) l.length c).ownBlock ≠ some q := fun h he => h (by simpa [Value.ownBlock, eq_comm] using he)
    dsimp only at hq
    split at hq
    · exact ⟨.inr hq, hn (hG _ hq)⟩
    · exact ⟨.inl (h7 i q hq).1, hn (h7 i q hq).2⟩
  · rw [List.getElem?_set] at hx
    by_cases hi : i = k
    · subst hi
      rw [if_pos rfl, if_pos h3] at hx
      cases hx
      simp only [if_true]
      rw [h5]; exact hy
    · rw [if_neg (fun h => hi h.symm)] at hx
      simp only [if_neg hi]
      exact h9 i x hi hx
theorem set0 {s : Nat} (h : HoleL e r w F g n c l k us) (hs : r.sz = s) (h0 : 0 < s) (u : Value) : HoleL e r (w.setCell ⟨g, k * s, none⟩ u) F g n c l k (us.set 0 u) := by
  subst hs; exact h.set h0 u
theorem setj {s j : Nat} (h : HoleL e r w F g n c l k us) (hs : r.sz = s) (hj : j < s) (u : Value) : HoleL e r (w.setCell ⟨g, k * s + j, none⟩ u) F g n c l k (us.set j u) := by
  subst hs; exact h.set hj u
theorem cell0 {s : Nat} {u : Value} (h : HoleL e r w F g n c l k us) (hs : r.sz = s) (hu : us[0]? = some u) : w.cell? ⟨g, k * s, none⟩ = some u := by
  subst hs; exact h.cell.1 0 u hu
theorem cellj {s : Nat} (j : Nat) {u : Value} (h : HoleL e r w F g n c l k us) (hs : r.sz = s) (hu : us[j]? = some u) : w.cell? ⟨g, k * s + j, none⟩ = some u := by
  subst hs; exact h.cell.1 j u hu
theorem set1 (h : HoleL e r w F g n c l k us) (hs : r.sz = 1) (u : Value) : HoleL e r (w.setCell ⟨g, k, none⟩ u) F g n c l k (us.set 0 u) := by
  have := h.set0 hs (by omega) u
  rwa [Nat.mul_one] at this
theorem cell1 {u : Value} (h : HoleL e r w F g n c l k us) (hs : r.sz = 1) (hu : us[0]? = some u) : w.cell? ⟨g, k, none⟩ = some u := by
  have := h.cell0 hs hu
  rwa [Nat.mul_one] at this
theorem free (h : HoleL e r w F g n c l k us) (o : Nat) : w.frozen? ⟨g, o, none⟩ = false := h.cell.2 o
end HoleL
end
end Go.Proofs.YtnfaibenekninaaGreat.L

set_option linter.unusedVariables false
namespace Go.Proofs.YtnfaibenekninaaGreat.L
open Go.RowKit
def Df.t (d : Df) : Fl × Int × Int := (d.step, d.part, d.at_)
def dfK : Rp Df := (flat.pair (Rp.int.pair Rp.int)).iso Df.t
def dfCs (d : Df) : List Value := [.int .i64 d.step.op, .int .i64 d.step.dO, .int .i64 d.step.dst, .int .i64 d.step.a, .int .i64 d.step.b, .int .i64 d.step.n, .int .i64 d.part, .int .i64 d.at_]
theorem df_open {w : World} {F : Nat → Prop} {d : Df} {cs : List Value} (h : dfK.K w F d cs) : cs = dfCs d := by
  obtain ⟨c, e, rfl, h1, a, b, rfl, rfl, rfl⟩ := h
  obtain rfl := flat_open h1
  rfl
theorem df_mk (w : World) (F : Nat → Prop) (d : Df) : dfK.K w F d (dfCs d) := ⟨_, [_, _], rfl, flat_mk w F d.step, [_], [_], rfl, rfl, rfl⟩
theorem infoDf : (Tryz.prog.info? 186).map (fun i => (i.zero, i.size, i.bytes)) = some (some (.agg #[.int .i64 0, .int .i64 0, .int .i64 0, .int .i64 0, .int .i64 0, .int .i64 0, .int .i64 0, .int .i64 0]), 8, 64) := by kernel_rfl
/-- A way to be in eight cells. -/
structure DfAt (w : World) (b o : Nat) (d : Df) : Prop where
  c0 : w.cell? ⟨b, o, none⟩ = some (.int .i64 d.step.op)
  c1 : w.cell? ⟨b, o + 1, none⟩ = some (.int .i64 d.step.dO)
  c2 : w.cell? ⟨b, o + 2, none⟩ = some (.int .i64 d.step.dst)
  c3 : w.cell? ⟨b, o + 3, none⟩ = some (.int .i64 d.step.a)
  c4 : w.cell? ⟨b, o + 4, none⟩ = some (.int .i64 d.step.b)
  c5 : w.cell? ⟨b, o + 5, none⟩ = some (.int .i64 d.step.n)
  c6 : w.cell? ⟨b, o + 6, none⟩ = some (.int .i64 d.part)
  c7 : w.cell? ⟨b, o + 7, none⟩ = some (.int .i64 d.at_)
theorem DfAt.below {w w1 : World} {b o : Nat} {d : Df} (h : DfAt w b o d) (hb : Below w.heap.size w w1) : DfAt w1 b o d :=
  ⟨cell_below hb h.c0, cell_below hb h.c1, cell_below hb h.c2, cell_below hb h.c3, cell_below hb h.c4, cell_below hb h.c5, cell_below hb h.c6, cell_below hb h.c7⟩
theorem dfAt_of {w : World} {b o : Nat} {d : Df} (h : ∀ j u, (dfCs d)[j]? = some u → w.cell? ⟨b, o + j, none⟩ = some u) : DfAt w b o d :=
  ⟨h 0 _ rfl, h 1 _ rfl, h 2 _ rfl, h 3 _ rfl, h 4 _ rfl, h 5 _ rfl, h 6 _ rfl, h 7 _ rfl⟩
theorem rd_df {w : World} {F : Nat → Prop} {v : Value} {l : List Df} (h : Rp.Rd dfK w F v l) : ∃ A c, v = .slice A l.length c ∧ l.length ≤ c ∧ c ≤ 9223372036854775807 ∧
    (l = [] ∨ ∃ b o, A = some ⟨b, o, none⟩ ∧ b < w.heap.size ∧ ∀ (k : Nat) (hk : k < l.length), DfAt w b (o + k * 8) l[k]) := by
  obtain ⟨A, c, rfl, hl, hm, h⟩ := h
  refine ⟨A, c, rfl, hl, hm, ?_⟩
  rcases h with h | ⟨b, o, rfl, _, hb, h⟩
  · exact .inl h
  · refine .inr ⟨b, o, rfl, hb, fun k hk => ?_⟩
    obtain ⟨cs, hK, hc⟩ := h k l[k] (List.getElem?_eq_getElem hk)
    obtain rfl := df_open hK
    refine dfAt_of fun j u hu => ?_
    rw [Nat.add_assoc]
    exact hc j u hu
theorem Ow.df_at {ap : Bool} {e g n c : Nat} {w : World} {F : Nat → Prop} {l : List Df} (h : Ow ap e dfK w F (.slice (some ⟨g, 0, none⟩) n c) l) {k : Nat} (hk : k < l.length) :
    DfAt w g (k * 8) l[k] ∧ ∀ o, w.frozen? ⟨g, o, none⟩ = false := by
  obtain ⟨g', c', cs, he, _, _, hK, hc, hf⟩ := h.at_ (List.getElem?_eq_getElem hk)
  injection he with he _ _
  injection he with he
  injection he with he _
  subst he
  obtain rfl := df_open hK
  exact ⟨dfAt_of hc, hf⟩
theorem df_flat : Rp.Flat dfK := fun h w' G => by
  obtain rfl := df_open h
  exact df_mk _ _ _
end Go.Proofs.YtnfaibenekninaaGreat.L

set_option linter.unusedVariables false
set_option linter.unusedSimpArgs false
namespace Go.Proofs.YtnfaibenekninaaGreat.L
open Go.RowKit
def dfz : Df := ⟨fl0, 0, 0⟩
theorem rep_set {α : Type} (y z : α) {k n : Nat} (hk : k < n) : (List.replicate k y ++ List.replicate (n - k) z).set k y = List.replicate (k + 1) y ++ List.replicate (n - (k + 1)) z := by
  have e1 : n - k = (n - (k + 1)) + 1 := by omega
  rw [e1, List.replicate_succ, List.set_append_right _ _ (by simp), List.length_replicate, Nat.sub_self, List.set_cons_zero, List.replicate_succ', List.append_assoc]
  rfl
theorem rep_get {α : Type} (y z : α) {k n : Nat} (hk : k < n) (h : k < (List.replicate k y ++ List.replicate (n - k) z).length) : (List.replicate k y ++ List.replicate (n - k) z)[k] = z := by
  rw [List.getElem_append_right (by simp)]
  simp
/-- The row of the ways to be, as it lies. -/
structure DSt (N go : Nat) (D : List Df) (W0 w : World) : Prop where
  ln : D.length = N
  ow : Ow false 186 dfK w (fun q => q = go) (.slice (some ⟨go, 0, none⟩) N N) D
  ch : Chg (fun q => q = go) W0 w
theorem DSt.below {N go : Nat} {D : List Df} {W0 w w' : World} (h : DSt N go D W0 w) (hb : Below w.heap.size w w') : DSt N go D W0 w' := ⟨h.ln, h.ow.below hb, h.ch.trans (Chg.of_below hb)⟩
theorem DSt.cells {N go : Nat} {D : List Df} {W0 w : World} (h : DSt N go D W0 w) {a : Nat} (ha : a < N) : ∃ d, DfAt w go (a * 8) d ∧ ∀ o, w.frozen? ⟨go, o, none⟩ = false :=
  ⟨_, (h.ow.df_at (k := a) (by rw [h.ln]; exact ha)).1, (h.ow.df_at (k := a) (by rw [h.ln]; exact ha)).2⟩
theorem putRow_chg (g : Nat) : ∀ (us : List Value) (w : World) (o : Nat), Chg (fun q => q = g) w (putRow w g o us)
  | [], w, o => Chg.refl _ _
  | u :: us, w, o => (Chg.set (A := fun q => q = g) (w := w) (b := g) (o := o) (u := u) rfl).trans (putRow_chg g us _ (o + 1))
theorem DSt.put {N go : Nat} {D : List Df} {W0 w : World} (h : DSt N go D W0 w) {a : Nat} (ha : a < N) (d : Df) : DSt N go (D.set a d) W0 (putRow w go (a * 8) (dfCs d)) :=
  ⟨by rw [List.length_set]; exact h.ln, (h.ow.putS (G := fun _ => False) rfl (by rw [h.ln]; exact ha) (df_mk _ _ d) (fun _ h => h.elim)).mono (fun q hq => hq.elim id (fun h => h.elim)), h.ch.trans (putRow_chg _ _ _ _)⟩
theorem DSt.put_chg (w : World) (go a : Nat) (d : Df) : Chg (fun q => q = go) w (putRow w go (a * 8) (dfCs d)) := putRow_chg _ _ _ _
theorem DSt.part1 {N go : Nat} {D : List Df} {W0 w : World} (h : DSt N go D W0 w) {a : Nat} (ha : a < N) {d : Df} {u : Value} {y : Df} {j : Nat} (hj : j < 8) (hd : D[a]'(by rw [h.ln]; exact ha) = d) (hy : (dfCs d).set j u = dfCs y) : DSt N go (D.set a y) W0 (w.setCell ⟨go, a * 8 + j, none⟩ u) := by
  obtain ⟨us, hK, hH⟩ := h.ow.holeL (k := a) (by rw [h.ln]; exact ha)
  rw [hd] at hK
  obtain rfl := df_open hK
  have hH2 := hH.setj (s := 8) (j := j) rfl hj u
  rw [hy] at hH2
  exact ⟨by rw [List.length_set]; exact h.ln, (hH2.close (G := fun _ => False) (df_mk _ _ y) (fun _ h => h.elim)).mono (fun q hq => hq.elim id (fun h => h.elim)), h.ch.trans (Chg.set rfl)⟩
set_option maxRecDepth 100000 in
set_option maxHeartbeats 8000000 in
theorem l11Defs_calls {F : Nat → Prop} (s : Sa) (N : Nat) (vparts : Value) (w : World) (hs : Rp.Rd part w F vparts s.parts) (hg : GoodP s) (hx2 : ∀ p ∈ s.parts, PtLim p) (hNV : (N : Int) = s.values) :
    Calls Tryz.prog 103 #[saV s vparts] w fun e w' => ∃ v', e = .returned v' ∧ Rp.Rd dfK w' (fun q => w.heap.size ≤ q) v' (dfAll s) ∧ Below w.heap.size w w' := by
  obtain ⟨A, c, rfl, hlc, hcm, hrow⟩ := rd_part hs
  have hv1 := hg.v1
  have hv2 := hg.v2
  have hn1 := hg.n1
  have hN0 : 0 < N := by omega
  have hN1 : N ≤ 250 := by omega
  have hNt : s.values.toNat = N := by omega
  rcases hrow with hnil | ⟨b, o, rfl, hbl, hcell⟩
  · rw [hnil] at hn1; simp at hn1
  have HSt := Lib.hid (fun o W => l9Sets_calls o W)
  have HC := Lib.hid hcell
  have HGP := Lib.hid hg
  have HX := Lib.hid hx2
  have HE0 : Hid (dfTo s 0 = List.replicate N df0) := Lib.hid (by unfold dfTo; rw [hNt]; rfl)
  clear hcell hs hx2
  unfold saV
  rw [← hNV]
  have hB0 : Below w.heap.size w (w.alloc (.cells #[.slice (some ⟨b, o, none⟩) s.parts.length c, .int .i64 (N : Int)] 28)) := below_new _
  have b0 := heap_alloc_new w (.cells #[.slice (some ⟨b, o, none⟩) s.parts.length c, .int .i64 (N : Int)] 28)
  have hz0 : (w.alloc (.cells #[.slice (some ⟨b, o, none⟩) s.parts.length c, .int .i64 (N : Int)] 28)).heap.size = w.heap.size + 1 := by simp
  have hmk := mk_all Tryz.underlying140 infoDf N (by omega) (by omega)
  replace hNV := Lib.hid hNV
  clear hNt
  go_enter Tryz.func103, Tryz.ntmps103
  go_wp2_with fail
  obtain ⟨W0, hW0⟩ : ∃ W0, W0 = w.alloc (.cells #[.slice (some ⟨b, o, none⟩) s.parts.length c, .int .i64 (N : Int)] 28) := ⟨_, rfl⟩
  rw [← hW0] at hB0 b0 hz0 ⊢
  clear hW0
  have hb1 := below_new (w := W0) (.cells (madeCells #[.int .i64 0, .int .i64 0, .int .i64 0, .int .i64 0, .int .i64 0, .int .i64 0, .int .i64 0, .int .i64 0] (N * 8)) 186)
  have hO1 := ow_alloc (e := 186) (r := dfK) (n := N) (z := #[.int .i64 0, .int .i64 0, .int .i64 0, .int .i64 0, .int .i64 0, .int .i64 0, .int .i64 0, .int .i64 0]) (x0 := dfz) W0 (by omega) rfl (by decide) (fun _ => df_mk _ _ dfz)
  have hsz1 : (W0.alloc (.cells (madeCells #[.int .i64 0, .int .i64 0, .int .i64 0, .int .i64 0, .int .i64 0, .int .i64 0, .int .i64 0, .int .i64 0] (N * 8)) 186)).heap.size = W0.heap.size + 1 := by simp
  obtain ⟨W1, hW1⟩ : ∃ W1, W1 = W0.alloc (.cells (madeCells #[.int .i64 0, .int .i64 0, .int .i64 0, .int .i64 0, .int .i64 0, .int .i64 0, .int .i64 0, .int .i64 0] (N * 8)) 186) := ⟨_, rfl⟩
  have hO2 : Ow true 186 dfK W1 (fun k => k = W0.heap.size) (.slice (some ⟨W0.heap.size, 0, none⟩) N N) (List.replicate N dfz) := by rw [hW1]; exact hO1
  rw [← hW1] at hb1 hsz1 ⊢
  clear hW1 hO1
  obtain ⟨go, hgo⟩ : ∃ go, go = W0.heap.size := ⟨_, rfl⟩
  rw [← hgo] at hO2 hsz1
  have hB1 := below_then hB0 hb1
  have b1 := blk_below b0 hb1
  have hgw : go = w.heap.size + 1 := by omega
  rw [← hgw]
  have hgl : w.heap.size < go := by omega
  clear hgw hgo b0 hb1 hB0 hz0
  have hS0 : DSt N go (List.replicate 0 df0 ++ List.replicate (N - 0) dfz) W1 W1 := ⟨by simp, by simpa using hO2.loose, Chg.refl _ _⟩
  clear hO2
  go_loopw [16] (fun i wr => ∃ k : Nat, k ≤ N ∧ i = .int .i64 k ∧ DSt N go (List.replicate k df0 ++ List.replicate (N - k) dfz) W1 wr) (fun i _ => N - (intOf i).toNat)
  case atStart => exact ⟨0, Nat.zero_le _, rfl, hS0⟩
  case round =>
    clear hS0
    obtain ⟨k, hk, rfl, HS⟩ := hrel
    rename World => wx
    by_cases hkt : k < N
    · have k0 : (0 : Int) ≤ (k : Int) := Int.natCast_nonneg _
      have k1 : (k : Int) < (N : Int) := by omega
      obtain ⟨d0, ⟨z0, z1, z2, z3, z4, z5, z6, z7⟩, hfr⟩ := HS.cells hkt
      have hP := HS.part1 (a := k) hkt (d := dfz) (u := .int .i64 (-1)) (y := df0) (j := 6) (by omega) (rep_get _ _ hkt _) rfl
      rw [rep_set _ _ hkt] at hP
      clear HS
      go_wp2
      go_roundw
      case rel => exact ⟨k + 1, by omega, by go_num, hP⟩
      case measure => simp [intOf]; omega
    · obtain rfl : k = N := by omega
      have HS0 : DSt k go (dfTo s 0) W1 wx := by rw [HE0.out]; simpa using HS
      have hHB := HS.ch.to_below hB1 hB1.size (fun q hq => by have hq : q = go := hq; omega)
      have bx := HS.ch.blk b1 (by omega)
      obtain ⟨x1, _⟩ := cell_of_block bx
      have x10 : wx.cell? ⟨w.heap.size, 0, none⟩ = some (.slice (some ⟨b, o, none⟩) s.parts.length c) := (x1 0).trans rfl
      clear x1 HS HE0
      go_wp2_with fail
      clear x10
      go_loopw [27] (fun i wr => ∃ q : Nat, q ≤ s.parts.length ∧ i = .int .i64 q ∧ DSt k go (dfTo s q) W1 wr) (fun i _ => s.parts.length - (intOf i).toNat)
      case atStart => exact ⟨0, Nat.zero_le _, rfl, HS0⟩
      case round =>
        clear HS0 hHB bx
        obtain ⟨q, hq, rfl, HS⟩ := hrel
        rename World => wo
        by_cases hqt : q < s.parts.length
        · obtain ⟨_, _, _, _, hp, h1, h2, ⟨A3, c3, rfl, _⟩, ⟨A4, c4, rfl, _⟩⟩ := HC.out q hqt
          obtain ⟨A1, c1, rfl, _, _, hr1⟩ := rd_int h1
          obtain ⟨A2, c2, rfl, _, _, hr2⟩ := rd_flat h2
          have hsp : s.parts[q]? = some s.parts[q] := List.getElem?_eq_getElem hqt
          have hlp := HX.out _ (List.getElem_mem hqt)
          have hl1 := hlp.1
          have hl2 := hlp.2.1
          have HOw : Hid (∀ v ∈ ownS s.parts[q], 0 ≤ v ∧ v < (k : Int)) := Lib.hid (fun v hv => by have := HGP.out.own_def hsp hv; have := hNV.out; omega)
          have HSucc := Lib.hid (dfTo_succ hsp)
          have HBw := HS.ch.to_below hB1 hB1.size (fun q hq => by have hq : q = go := hq; omega)
          obtain ⟨q0, q1, q2, q3, q4, q5⟩ := partAt_below hp HBw
          clear hsp hlp hp h1 h2
          generalize s.parts[q] = p at *
          have hb2 := below_new (w := wo) (.cells #[.slice A1 p.params.length c1, .slice A2 p.code.length c2, .int .i64 p.go, .int .i64 p.test, .slice A3 p.next.length c3, .slice A4 p.args.length c4] 67)
          have p2 := heap_alloc_new wo (.cells #[.slice A1 p.params.length c1, .slice A2 p.code.length c2, .int .i64 p.go, .int .i64 p.test, .slice A3 p.next.length c3, .slice A4 p.args.length c4] 67)
          have hz2 : (wo.alloc (.cells #[.slice A1 p.params.length c1, .slice A2 p.code.length c2, .int .i64 p.go, .int .i64 p.test, .slice A3 p.next.length c3, .slice A4 p.args.length c4] 67)).heap.size = wo.heap.size + 1 := by simp
          obtain ⟨x1, _⟩ := cell_of_block p2
          have x10 : (wo.alloc (.cells #[.slice A1 p.params.length c1, .slice A2 p.code.length c2, .int .i64 p.go, .int .i64 p.test, .slice A3 p.next.length c3, .slice A4 p.args.length c4] 67)).cell? ⟨wo.heap.size, 0, none⟩ = some (.slice A1 p.params.length c1) := (x1 0).trans rfl
          clear x1
          have m0 : (0 : Int) ≤ (q : Int) := Int.natCast_nonneg _
          have m1 : (q : Int) < (s.parts.length : Int) := by omega
          go_wp2_with fail
          clear q0 q1 q2 q3 q4 q5 x10
          have HS2 := HS.below hb2
          have hgo2 : go < wo.heap.size := by have := HS.ch.size; omega
          obtain ⟨W2, hW2⟩ : ∃ W2, W2 = wo.alloc (.cells #[.slice A1 p.params.length c1, .slice A2 p.code.length c2, .int .i64 p.go, .int .i64 p.test, .slice A3 p.next.length c3, .slice A4 p.args.length c4] 67) := ⟨_, rfl⟩
          rw [← hW2] at hb2 p2 hz2 HS2 ⊢
          clear hW2
          obtain ⟨D0, hD0⟩ : ∃ D0, D0 = dfTo s q := ⟨_, rfl⟩
          rw [← hD0] at HS2 HSucc
          clear hD0 HS
          have hS3 : DSt k go (dfParam q D0 p.params 0) W1 W2 := HS2
          clear HS2
          go_loopw [35] (fun i wr => ∃ j : Nat, j ≤ p.params.length ∧ i = .int .i64 j ∧ DSt k go (dfParam q D0 p.params j) W1 wr ∧ Chg (fun q => q = go) W2 wr) (fun i _ => p.params.length - (intOf i).toNat)
          case atStart => exact ⟨0, Nat.zero_le _, rfl, hS3, Chg.refl _ _⟩
          case round =>
            clear hS3
            obtain ⟨j, hj, rfl, HS, HCh⟩ := hrel
            rename World => wy
            by_cases hjt : j < p.params.length
            · rcases hr1 with hn0 | ⟨bp, op, rfl, hbp, hcp⟩
              · rw [hn0] at hjt; simp at hjt
              have HBy := HS.ch.to_below hB1 hB1.size (fun q hq => by have hq : q = go := hq; omega)
              have cv := cell_below HBy (hcp j hjt)
              have hvr := HOw.out _ (List.mem_append.2 (.inl (List.getElem_mem hjt)))
              have e : p.params.getD j 0 = p.params[j] := by rw [List.getD_eq_getElem?_getD, List.getElem?_eq_getElem hjt]; rfl
              have HSu : Hid (dfParam q D0 p.params (j + 1) = (dfParam q D0 p.params j).set (p.params[j]).toNat ⟨fl0, q, j⟩) := Lib.hid (by rw [dfParam_succ, e])
              clear hcp e
              obtain ⟨v, hv⟩ : ∃ v, v = p.params[j] := ⟨_, rfl⟩
              rw [← hv] at cv hvr HSu
              clear hv
              obtain ⟨a, rfl⟩ := Int.eq_ofNat_of_zero_le hvr.1
              have hak : a < k := by omega
              have a0 : (0 : Int) ≤ (a : Int) := Int.natCast_nonneg _
              have a1 : (a : Int) < (k : Int) := by omega
              have j0 : (0 : Int) ≤ (j : Int) := Int.natCast_nonneg _
              have j1 : (j : Int) < (p.params.length : Int) := by omega
              obtain ⟨d0, ⟨z0, z1, z2, z3, z4, z5, z6, z7⟩, hfr⟩ := HS.cells hak
              have hP := HS.put hak ⟨fl0, q, j⟩
              rw [show (Int.toNat (a : Int)) = a from Int.toNat_natCast a] at HSu
              rw [← HSu.out] at hP
              have HCh2 : Chg (fun q => q = go) W2 (putRow wy go (a * 8) (dfCs ⟨fl0, q, j⟩)) := HCh.trans (DSt.put_chg _ _ _ _)
              clear HS HCh HSu
              go_wp2
              go_roundw
              case rel => exact ⟨j + 1, by omega, by go_num, hP, HCh2⟩
              case measure => simp [intOf]; omega
            · obtain rfl : j = p.params.length := by omega
              obtain ⟨D1, hD1⟩ : ∃ D1, D1 = dfParam q D0 p.params p.params.length := ⟨_, rfl⟩
              have HSucc2 : Hid (dfTo s (q + 1) = dfCode D1 p.code) := Lib.hid (by rw [HSucc.out, hD1]; rfl)
              rw [← hD1] at HS
              clear hD1 HSucc
              have p3 := HCh.blk p2 (by omega)
              obtain ⟨x1, _⟩ := cell_of_block p3
              have x11 : wy.cell? ⟨wo.heap.size, 1, none⟩ = some (.slice A2 p.code.length c2) := (x1 1).trans rfl
              clear x1 HCh
              go_wp2_with fail
              clear x11
              have hS4 : DSt k go (dfCode D1 (p.code.take 0)) W1 wy := HS
              clear HS
              go_loopw [50] (fun i wr => ∃ n : Nat, n ≤ p.code.length ∧ i = .int .i64 n ∧ DSt k go (dfCode D1 (p.code.take n)) W1 wr) (fun i _ => p.code.length - (intOf i).toNat)
              case atStart => exact ⟨0, Nat.zero_le _, rfl, hS4⟩
              case round =>
                clear hS4 p3
                obtain ⟨n, hn, rfl, HS⟩ := hrel
                rename World => wz
                by_cases hnt : n < p.code.length
                · rcases hr2 with hn0 | ⟨bc, oc, rfl, hbc, hcc⟩
                  · rw [hn0] at hnt; simp at hnt
                  have HBz := HS.ch.to_below hB1 hB1.size (fun q hq => by have hq : q = go := hq; omega)
                  obtain ⟨r0, r1, r2, r3, r4, r5⟩ := (hcc n hnt).below HBz
                  have HTk := Lib.hid (dfCode_take (D := D1) hnt)
                  have HDs : Hid (setsS p.code[n] = true → 0 ≤ p.code[n].dst ∧ p.code[n].dst < (k : Int)) := Lib.hid (fun h => HOw.out _ (List.mem_append.2 (.inr (List.mem_map.2 ⟨_, List.mem_filter.2 ⟨List.getElem_mem hnt, h⟩, rfl⟩))))
                  clear hcc
                  generalize p.code[n] = x at *
                  have n0 : (0 : Int) ≤ (n : Int) := Int.natCast_nonneg _
                  have n1 : (n : Int) < (p.code.length : Int) := by omega
                  have hb3 := below_new (w := wz) (.cells #[.int .i64 x.op, .int .i64 x.dO, .int .i64 x.dst, .int .i64 x.a, .int .i64 x.b, .int .i64 x.n] 71)
                  have x3 := heap_alloc_new wz (.cells #[.int .i64 x.op, .int .i64 x.dO, .int .i64 x.dst, .int .i64 x.a, .int .i64 x.b, .int .i64 x.n] 71)
                  have hz3 : (wz.alloc (.cells #[.int .i64 x.op, .int .i64 x.dO, .int .i64 x.dst, .int .i64 x.a, .int .i64 x.b, .int .i64 x.n] 71)).heap.size = wz.heap.size + 1 := by simp
                  have HS3 := HS.below hb3
                  obtain ⟨y1, _⟩ := cell_of_block x3
                  have y10 : (wz.alloc (.cells #[.int .i64 x.op, .int .i64 x.dO, .int .i64 x.dst, .int .i64 x.a, .int .i64 x.b, .int .i64 x.n] 71)).cell? ⟨wz.heap.size, 0, none⟩ = some (.int .i64 x.op) := (y1 0).trans rfl
                  have hst := Lib.hid (HSt.out x.op)
                  clear HS y1
                  go_wp2_with fail
                  refine (hst.out _).mono ?_
                  rintro e w4 ⟨rfl, rfl⟩
                  have HE : Hid (inB x.op 1 4 = setsS x) := Lib.hid rfl
                  rw [HE.out]
                  clear r0 r1 r2 r3 r4 r5 hst HE y10
                  cases hsx : setsS x
                  · have HT2 : Hid (dfCode D1 (p.code.take (n + 1)) = dfCode D1 (p.code.take n)) := Lib.hid (by rw [HTk.out]; unfold dfStep; rw [hsx]; rfl)
                    clear hsx HTk HDs
                    go_wp2
                    go_roundw
                    case rel => exact ⟨n + 1, by omega, by go_num, by rw [HT2.out]; exact HS3⟩
                    case measure => simp [intOf]; omega
                  · have hdr := HDs.out hsx
                    have HT2 : Hid (dfCode D1 (p.code.take (n + 1)) = (dfCode D1 (p.code.take n)).set x.dst.toNat ⟨x, -1, 0⟩) := Lib.hid (by rw [HTk.out]; unfold dfStep; rw [hsx]; rfl)
                    clear hsx HTk HDs
                    obtain ⟨y1, _⟩ := cell_of_block x3
                    have y10 : (wz.alloc (.cells #[.int .i64 x.op, .int .i64 x.dO, .int .i64 x.dst, .int .i64 x.a, .int .i64 x.b, .int .i64 x.n] 71)).cell? ⟨wz.heap.size, 0, none⟩ = some (.int .i64 x.op) := (y1 0).trans rfl
                    have y11 : (wz.alloc (.cells #[.int .i64 x.op, .int .i64 x.dO, .int .i64 x.dst, .int .i64 x.a, .int .i64 x.b, .int .i64 x.n] 71)).cell? ⟨wz.heap.size, 1, none⟩ = some (.int .i64 x.dO) := (y1 1).trans rfl
                    have y12 : (wz.alloc (.cells #[.int .i64 x.op, .int .i64 x.dO, .int .i64 x.dst, .int .i64 x.a, .int .i64 x.b, .int .i64 x.n] 71)).cell? ⟨wz.heap.size, 2, none⟩ = some (.int .i64 x.dst) := (y1 2).trans rfl
                    have y13 : (wz.alloc (.cells #[.int .i64 x.op, .int .i64 x.dO, .int .i64 x.dst, .int .i64 x.a, .int .i64 x.b, .int .i64 x.n] 71)).cell? ⟨wz.heap.size, 3, none⟩ = some (.int .i64 x.a) := (y1 3).trans rfl
                    have y14 : (wz.alloc (.cells #[.int .i64 x.op, .int .i64 x.dO, .int .i64 x.dst, .int .i64 x.a, .int .i64 x.b, .int .i64 x.n] 71)).cell? ⟨wz.heap.size, 4, none⟩ = some (.int .i64 x.b) := (y1 4).trans rfl
                    have y15 : (wz.alloc (.cells #[.int .i64 x.op, .int .i64 x.dO, .int .i64 x.dst, .int .i64 x.a, .int .i64 x.b, .int .i64 x.n] 71)).cell? ⟨wz.heap.size, 5, none⟩ = some (.int .i64 x.n) := (y1 5).trans rfl
                    clear y1
                    obtain ⟨a, ha⟩ := Int.eq_ofNat_of_zero_le hdr.1
                    have hak : a < k := by omega
                    have hat : x.dst.toNat = a := by omega
                    rw [hat] at HT2
                    have hP := HS3.put hak ⟨x, -1, 0⟩
                    rw [← HT2.out] at hP
                    obtain ⟨d0, ⟨z0, z1, z2, z3, z4, z5, z6, z7⟩, hfr⟩ := HS3.cells hak
                    have a0 : (0 : Int) ≤ (a : Int) := Int.natCast_nonneg _
                    have a1 : (a : Int) < (k : Int) := by omega
                    obtain ⟨xo, xd, xdst, xa, xb, xn⟩ := x
                    dsimp only at *
                    subst ha
                    clear HS3 HT2 hdr hat
                    go_wp2
                    go_roundw
                    case rel => exact ⟨n + 1, by omega, by go_num, hP⟩
                    case measure => simp [intOf]; omega
                · obtain rfl : n = p.code.length := by omega
                  rw [List.take_length] at HS
                  rw [← HSucc2.out] at HS
                  go_wp2
                  go_roundw
                  case rel => exact ⟨q + 1, by omega, by go_num, HS⟩
                  case measure => simp [intOf]; omega
        · obtain rfl : q = s.parts.length := by omega
          have HBw := HS.ch.to_below hB1 hB1.size (fun q hq => by have hq : q = go := hq; omega)
          have hO := (HS.ow.mono (G := fun q => w.heap.size ≤ q) (fun q hq => by have hq : q = go := hq; omega)).rd
          clear HS
          go_wp2
          go_ret
          exact ⟨_, rfl, hO, HBw⟩
end Go.Proofs.YtnfaibenekninaaGreat.L
