/- Joined texts, each of which was built by itself: Gp2 Gp3 Gp4. -/
import Derived.Test.YtnfaibenekninaaGreatFDropUnused2
import Derived.Test.YtnfaibenekninaaGreatFDropUnused1
set_option linter.unusedVariables false
namespace Go.Proofs.YtnfaibenekninaaGreat.L
section
variable {σ : Type} [DecidableEq σ]
/-- What the program's round asks of a value: its group, and those of what it uses. -/
def keyI (us : Nat → List Nat) (now : List Nat) (k : Nat) : Nat × List UInt8 := (now.getD k 0, (us k).map (fun u => UInt8.ofNat (now.getD u 0)))
def keysI (n : Nat) (us : Nat → List Nat) (now : List Nat) : List (Nat × List UInt8) := (List.range n).map (keyI us now)
def nowI (n : Nat) (srt : Nat → σ) (us : Nat → List Nat) : Nat → List Nat
  | 0 => numL ((List.range n).map srt)
  | t + 1 => numL (keysI n us (nowI n srt us t))
def cntI (n : Nat) (srt : Nat → σ) (us : Nat → List Nat) : Nat → Nat
  | 0 => (firsts ((List.range n).map srt)).length
  | t + 1 => (firsts (keysI n us (nowI n srt us t))).length
/-- The reference's groups: by their first values. -/
def gS (srt : Nat → σ) (us : Nat → List Nat) (root : Nat → Nat) : Nat → Nat → Nat
  | 0 => leastS srt
  | t + 1 => leastS (fun v => (gS srt us root t v, srt v, (us v).map (fun u => gS srt us root t (root u))))
def keyS (srt : Nat → σ) (us : Nat → List Nat) (root : Nat → Nat) (t v : Nat) : Nat × σ × List Nat := (gS srt us root t v, srt v, (us v).map (fun u => gS srt us root t (root u)))
theorem gS_succ (srt : Nat → σ) (us : Nat → List Nat) (root : Nat → Nat) (t : Nat) : gS srt us root (t + 1) = leastS (keyS srt us root t) := rfl
structure Grp (n : Nat) (srt : Nat → σ) (us : Nat → List Nat) (root : Nat → Nat) : Prop where
  n2 : n ≤ 250
  rt : ∀ v, v < n → root v < n ∧ root (root v) = root v
  us : ∀ v, v < n → ∀ u ∈ us v, u < n
  cp : ∀ v w, v < n → w < n → root v ≠ v → srt v = srt w → v = w
theorem map_iff {α β γ : Type} {f : α → β} {g : α → γ} : ∀ {l m : List α}, (∀ a ∈ l, ∀ b ∈ m, (f a = f b ↔ g a = g b)) → (l.map f = m.map f ↔ l.map g = m.map g)
  | [], [], _ => by simp
  | [], _ :: _, _ => by simp
  | _ :: _, [], _ => by simp
  | a :: l, b :: m, h => by
    simp only [List.map_cons, List.cons.injEq]
    rw [h a List.mem_cons_self b List.mem_cons_self, map_iff (fun x hx y hy => h x (List.mem_cons_of_mem _ hx) y (List.mem_cons_of_mem _ hy))]
theorem u8_inj {a b : Nat} (ha : a < 256) (hb : b < 256) : UInt8.ofNat a = UInt8.ofNat b ↔ a = b := by
  constructor
  · intro h
    have := congrArg UInt8.toNat h
    simpa [UInt8.toNat_ofNat', Nat.mod_eq_of_lt ha, Nat.mod_eq_of_lt hb] using this
  · intro h; rw [h]
section
variable {n : Nat} {srt : Nat → σ} {us : Nat → List Nat} {root : Nat → Nat}
theorem gS_srt (t : Nat) {v w : Nat} (h : gS srt us root t v = gS srt us root t w) : srt v = srt w := by
  cases t with
  | zero => exact (leastS_iff srt v w).1 h
  | succ t =>
    rw [gS_succ] at h
    have := (leastS_iff _ v w).1 h
    simp only [keyS, Prod.mk.injEq] at this
    exact this.2.1
theorem gS_fine (t : Nat) {v w : Nat} (h : gS srt us root (t + 1) v = gS srt us root (t + 1) w) : gS srt us root t v = gS srt us root t w := by
  rw [gS_succ] at h
  have := (leastS_iff _ v w).1 h
  simp only [keyS, Prod.mk.injEq] at this
  exact this.1
theorem gS_le (t v : Nat) : gS srt us root t v ≤ v := by
  cases t with
  | zero => exact (leastS_spec srt v).1
  | succ t => rw [gS_succ]; exact (leastS_spec _ v).1
/-- The things that are numbered in a round. -/
theorem nowI_len (t : Nat) : (nowI n srt us t).length = n := by
  cases t <;> simp [nowI, numL_len, keysI]
theorem nowI_lt (t : Nat) {v : Nat} (hv : v < n) : (nowI n srt us t).getD v 0 < cntI n srt us t := by
  cases t with
  | zero => exact numL_lt (by simpa using hv)
  | succ t => exact numL_lt (by simpa [keysI] using hv)
theorem cntI_le (t : Nat) : cntI n srt us t ≤ n := by
  cases t with
  | zero => have := firsts_len ((List.range n).map srt); simpa [cntI] using this
  | succ t => have := firsts_len (keysI n us (nowI n srt us t)); simpa [cntI, keysI] using this
theorem nowI_zero_iff {v w : Nat} (hv : v < n) (hw : w < n) : (nowI n srt us 0).getD v 0 = (nowI n srt us 0).getD w 0 ↔ srt v = srt w := by
  have := numL_iff (l := (List.range n).map srt) (i := v) (j := w) (by simpa using hv) (by simpa using hw)
  simpa [nowI] using this
theorem nowI_succ_iff {t v w : Nat} (hv : v < n) (hw : w < n) : (nowI n srt us (t + 1)).getD v 0 = (nowI n srt us (t + 1)).getD w 0 ↔ keyI us (nowI n srt us t) v = keyI us (nowI n srt us t) w := by
  have := numL_iff (l := keysI n us (nowI n srt us t)) (i := v) (j := w) (by simpa [keysI] using hv) (by simpa [keysI] using hw)
  simpa [nowI, keysI] using this
theorem nowI_fine {t v w : Nat} (hv : v < n) (hw : w < n) (h : (nowI n srt us (t + 1)).getD v 0 = (nowI n srt us (t + 1)).getD w 0) : (nowI n srt us t).getD v 0 = (nowI n srt us t).getD w 0 := by
  have := (nowI_succ_iff hv hw).1 h
  simp only [keyI, Prod.mk.injEq] at this
  exact this.1
theorem sim (h : Grp n srt us root) (t : Nat) : ∀ v w, v < n → w < n → ((nowI n (fun v => srt (root v)) (fun v => us (root v)) t).getD v 0 = (nowI n (fun v => srt (root v)) (fun v => us (root v)) t).getD w 0 ↔ gS srt us root t (root v) = gS srt us root t (root w)) := by
  induction t with
  | zero =>
    intro v w hv hw
    rw [nowI_zero_iff hv hw]
    exact (leastS_iff srt _ _).symm
  | succ t ih =>
    intro v w hv hw
    rw [nowI_succ_iff hv hw, gS_succ, leastS_iff]
    simp only [keyI, keyS, Prod.mk.injEq]
    have hm : ((us (root v)).map (fun u => UInt8.ofNat ((nowI n (fun v => srt (root v)) (fun v => us (root v)) t).getD u 0)) = (us (root w)).map (fun u => UInt8.ofNat ((nowI n (fun v => srt (root v)) (fun v => us (root v)) t).getD u 0))) ↔
        ((us (root v)).map (fun u => gS srt us root t (root u)) = (us (root w)).map (fun u => gS srt us root t (root u))) := by
      refine map_iff (fun a ha b hb => ?_)
      have ha' := h.us _ (h.rt v hv).1 a ha
      have hb' := h.us _ (h.rt w hw).1 b hb
      have h1 := nowI_lt (srt := fun v => srt (root v)) (us := fun v => us (root v)) t ha'
      have h2 := nowI_lt (srt := fun v => srt (root v)) (us := fun v => us (root v)) t hb'
      have h3 := cntI_le (n := n) (srt := fun v => srt (root v)) (us := fun v => us (root v)) t
      have h4 := h.n2
      rw [u8_inj (by omega) (by omega)]
      exact ih a b ha' hb'
    rw [hm, ih v w hv hw]
    exact ⟨fun hh => ⟨hh.1, gS_srt t hh.1, hh.2⟩, fun hh => ⟨hh.1, hh.2.2⟩⟩
def StopI (n : Nat) (srt : Nat → σ) (us : Nat → List Nat) (t : Nat) : Prop := cntI n srt us (t + 1) = cntI n srt us t
def StopS (n : Nat) (srt : Nat → σ) (us : Nat → List Nat) (root : Nat → Nat) (t : Nat) : Prop := ∀ v, v < n → gS srt us root (t + 1) v = gS srt us root t v
theorem stopI_iff (t : Nat) : StopI n srt us t ↔ ∀ v w, v < n → w < n → (nowI n srt us t).getD v 0 = (nowI n srt us t).getD w 0 → (nowI n srt us (t + 1)).getD v 0 = (nowI n srt us (t + 1)).getD w 0 := by
  unfold StopI
  cases t with
  | zero =>
    have key := firsts_eq_iff (l := (List.range n).map srt) (m := keysI n us (nowI n srt us 0)) (by simp [keysI]) (fun i j hi hj hij => by
      have hi' : i < n := by simpa using hi
      have hj' : j < n := by simpa using hj
      have := nowI_fine hi' hj' ((nowI_succ_iff hi' hj').2 (by simpa [keysI] using hij))
      simpa using (nowI_zero_iff hi' hj').1 this)
    show (firsts (keysI n us (nowI n srt us 0))).length = (firsts ((List.range n).map srt)).length ↔ _
    rw [key]
    constructor
    · intro h v w hv hw hvw
      have := h v w (by simpa using hv) (by simpa using hw) (by simpa using (nowI_zero_iff hv hw).1 hvw)
      exact (nowI_succ_iff hv hw).2 (by simpa [keysI] using this)
    · intro h i j hi hj hij
      have hi' : i < n := by simpa using hi
      have hj' : j < n := by simpa using hj
      have := (nowI_succ_iff hi' hj').1 (h i j hi' hj' ((nowI_zero_iff hi' hj').2 (by simpa using hij)))
      simpa [keysI] using this
  | succ t =>
    have key := firsts_eq_iff (l := keysI n us (nowI n srt us t)) (m := keysI n us (nowI n srt us (t + 1))) (by simp [keysI]) (fun i j hi hj hij => by
      have hi' : i < n := by simpa [keysI] using hi
      have hj' : j < n := by simpa [keysI] using hj
      have := nowI_fine hi' hj' ((nowI_succ_iff hi' hj').2 (by simpa [keysI] using hij))
      simpa [keysI] using (nowI_succ_iff hi' hj').1 this)
    show (firsts (keysI n us (nowI n srt us (t + 1)))).length = (firsts (keysI n us (nowI n srt us t))).length ↔ _
    rw [key]
    constructor
    · intro h v w hv hw hvw
      have := h v w (by simpa [keysI] using hv) (by simpa [keysI] using hw) (by simpa [keysI] using (nowI_succ_iff hv hw).1 hvw)
      exact (nowI_succ_iff hv hw).2 (by simpa [keysI] using this)
    · intro h i j hi hj hij
      have hi' : i < n := by simpa [keysI] using hi
      have hj' : j < n := by simpa [keysI] using hj
      have := (nowI_succ_iff hi' hj').1 (h i j hi' hj' ((nowI_succ_iff hi' hj').2 (by simpa [keysI] using hij)))
      simpa [keysI] using this
theorem cntI_mono (t : Nat) : cntI n srt us t ≤ cntI n srt us (t + 1) := by
  cases t with
  | zero =>
    exact firsts_le (l := (List.range n).map srt) (m := keysI n us (nowI n srt us 0)) (by simp [keysI]) (fun i j hi hj hij => by
      have hi' : i < n := by simpa using hi
      have hj' : j < n := by simpa using hj
      have := nowI_fine hi' hj' ((nowI_succ_iff hi' hj').2 (by simpa [keysI] using hij))
      simpa using (nowI_zero_iff hi' hj').1 this)
  | succ t =>
    exact firsts_le (l := keysI n us (nowI n srt us t)) (m := keysI n us (nowI n srt us (t + 1))) (by simp [keysI]) (fun i j hi hj hij => by
      have hi' : i < n := by simpa [keysI] using hi
      have hj' : j < n := by simpa [keysI] using hj
      have := nowI_fine hi' hj' ((nowI_succ_iff hi' hj').2 (by simpa [keysI] using hij))
      simpa [keysI] using (nowI_succ_iff hi' hj').1 this)
/-- gS is by least places of one key or other. -/
theorem gS_rel {t : Nat} (hh : ∀ v w, v < n → w < n → gS srt us root t v = gS srt us root t w → gS srt us root (t + 1) v = gS srt us root (t + 1) w) : StopS n srt us root t := by
  intro v hv
  have hiff : ∀ v w, v < n → w < n → (gS srt us root (t + 1) v = gS srt us root (t + 1) w ↔ gS srt us root t v = gS srt us root t w) := fun v w hv hw => ⟨gS_fine t, hh v w hv hw⟩
  cases t with
  | zero =>
    show leastS (keyS srt us root 0) v = leastS srt v
    exact leastS_congr (fun v w hv hw => by
      have := hiff v w hv hw
      rw [gS_succ, leastS_iff] at this
      exact this.trans (leastS_iff srt v w)) hv
  | succ t =>
    rw [gS_succ, gS_succ]
    exact leastS_congr (fun v w hv hw => by
      have := hiff v w hv hw
      rw [gS_succ, leastS_iff, gS_succ, leastS_iff] at this
      exact this) hv
theorem stop_iff (h : Grp n srt us root) (t : Nat) : StopI n (fun v => srt (root v)) (fun v => us (root v)) t ↔ StopS n srt us root t := by
  rw [stopI_iff]
  constructor
  · intro hi
    refine gS_rel fun v w hv hw hvw => ?_
    by_cases h1 : root v = v
    · by_cases h2 : root w = w
      · have := hi v w hv hw ((sim h t v w hv hw).2 (by rw [h1, h2]; exact hvw))
        have := (sim h (t + 1) v w hv hw).1 this
        rwa [h1, h2] at this
      · have := h.cp w v hw hv h2 (gS_srt t hvw).symm
        rw [this]
    · have := h.cp v w hv hw h1 (gS_srt t hvw)
      rw [this]
  · intro hs v w hv hw hvw
    have := (sim h t v w hv hw).1 hvw
    refine (sim h (t + 1) v w hv hw).2 ?_
    rw [hs _ (h.rt v hv).1, hs _ (h.rt w hw).1, this]
/-- What the program hands back is what the reference numbers. -/
theorem num_is (h : Grp n srt us root) (t : Nat) : numL ((List.range n).map (fun v => gS srt us root t (root v))) = nowI n (fun v => srt (root v)) (fun v => us (root v)) t := by
  cases t with
  | zero =>
    refine (num_congr (by simp) (fun i j hi hj => ?_)).1
    have hi' : i < n := by simpa using hi
    have hj' : j < n := by simpa using hj
    have := (sim h 0 i j hi' hj').symm.trans (nowI_zero_iff hi' hj')
    simpa using this
  | succ t =>
    refine (num_congr (by simp [keysI]) (fun i j hi hj => ?_)).1
    have hi' : i < n := by simpa using hi
    have hj' : j < n := by simpa using hj
    have := (sim h (t + 1) i j hi' hj').symm.trans (nowI_succ_iff hi' hj')
    simpa [keysI] using this
def First (P : Nat → Prop) (t : Nat) : Prop := P t ∧ ∀ q, q < t → ¬ P q
theorem First.uniq {P Q : Nat → Prop} (h : ∀ t, P t ↔ Q t) {t u : Nat} (ht : First P t) (hu : First Q u) : t = u := by
  rcases Nat.lt_trichotomy t u with hh | hh | hh
  · exact absurd ((h t).1 ht.1) (hu.2 t hh)
  · exact hh
  · exact absurd ((h u).2 hu.1) (ht.2 u hh)
/-- How many groups the reference has in a round. -/
def cntS (n : Nat) (srt : Nat → σ) (us : Nat → List Nat) (root : Nat → Nat) (t : Nat) : Nat := (firsts ((List.range n).map (gS srt us root t))).length
theorem cntS_le (t : Nat) : cntS n srt us root t ≤ n := by have := firsts_len ((List.range n).map (gS srt us root t)); simpa [cntS] using this
theorem cntS_lt {t : Nat} (hn : ¬ StopS n srt us root t) : cntS n srt us root t < cntS n srt us root (t + 1) := by
  have hf : ∀ (i j : Nat) (hi : i < ((List.range n).map (gS srt us root t)).length) (hj : j < ((List.range n).map (gS srt us root t)).length), ((List.range n).map (gS srt us root (t + 1)))[i]'(by simpa using hi) = ((List.range n).map (gS srt us root (t + 1)))[j]'(by simpa using hj) → ((List.range n).map (gS srt us root t))[i] = ((List.range n).map (gS srt us root t))[j] := by
    intro i j hi hj hij
    simp only [List.getElem_map, List.getElem_range] at hij ⊢
    exact gS_fine t hij
  have h1 := firsts_le (by simp) hf
  have h2 := firsts_eq_iff (by simp) hf
  unfold cntS
  rcases Nat.lt_or_eq_of_le h1 with h | h
  · exact h
  · refine absurd (gS_rel fun v w hv hw hvw => ?_) hn
    have := h2.1 h.symm v w (by simpa using hv) (by simpa using hw) (by simpa using hvw)
    simpa using this
end
end
/-- The least place with the same key, looked for from above: behind n steps. -/
def lowF {κ : Type} [DecidableEq κ] (f : Nat → κ) (v : Nat) : Nat → Nat
  | 0 => v
  | n + 1 => if f (v - (n + 1)) = f v then v - (n + 1) else lowF f v n
theorem lowF_spec {κ : Type} [DecidableEq κ] (f : Nat → κ) (v : Nat) : ∀ n, n ≤ v → v - n ≤ lowF f v n ∧ lowF f v n ≤ v ∧ f (lowF f v n) = f v ∧ ∀ w, v - n ≤ w → w < lowF f v n → f w ≠ f v := by
  intro n
  induction n with
  | zero => intro _; exact ⟨Nat.le_refl _, Nat.le_refl _, rfl, fun w h1 h2 => by simp [lowF] at h2; omega⟩
  | succ n ih =>
    intro hn
    obtain ⟨h1, h2, h3, h4⟩ := ih (by omega)
    unfold lowF
    split
    · rename_i h
      exact ⟨Nat.le_refl _, by omega, h, fun w a b => by omega⟩
    · rename_i h
      refine ⟨by omega, h2, h3, fun w a b => ?_⟩
      by_cases hw : w = v - (n + 1)
      · rw [hw]; exact h
      · exact h4 w (by omega) b
theorem lowF_all {κ : Type} [DecidableEq κ] (f : Nat → κ) (v : Nat) : lowF f v v = leastS f v := by
  obtain ⟨h1, h2, h3, h4⟩ := lowF_spec f v v (Nat.le_refl _)
  obtain ⟨a1, a2, a3⟩ := leastS_spec f v
  rcases Nat.lt_trichotomy (lowF f v v) (leastS f v) with hh | hh | hh
  · exact absurd h3 (a3 _ hh)
  · exact hh
  · exact absurd a2 (h4 _ (by omega) hh)
theorem lowF_at {κ : Type} [DecidableEq κ] (f : Nat → κ) {v n m : Nat} (hm : m + n + 1 = v) : lowF f v (n + 1) = if f m = f v then m else lowF f v n := by
  have e : v - (n + 1) = m := by omega
  rw [lowF, e]
theorem lowF_le {κ : Type} [DecidableEq κ] (f : Nat → κ) (v n : Nat) : lowF f v n ≤ v := by
  induction n with
  | zero => exact Nat.le_refl _
  | succ n ih => unfold lowF; split <;> omega
/-- The first k are told. -/
def tellTo (N : Nat) (g : Nat → Nat) (k : Nat) : List Int := (List.range N).map (fun v => if v < k then ((g v : Nat) : Int) else 0)
theorem tellTo_len (N : Nat) (g : Nat → Nat) (k : Nat) : (tellTo N g k).length = N := by simp [tellTo]
theorem tellTo_zero (N : Nat) (g : Nat → Nat) : tellTo N g 0 = List.replicate N 0 := by
  apply List.ext_getElem
  · simp [tellTo]
  · intro i h1 h2; simp [tellTo]
theorem tellTo_set {N : Nat} {g : Nat → Nat} {k : Nat} (hk : k < N) (x : Int) (h : x = ((g k : Nat) : Int)) : (tellTo N g k).set k x = tellTo N g (k + 1) := by
  apply List.ext_getElem
  · simp [tellTo]
  · intro i h1 h2
    rw [List.getElem_set]
    simp only [tellTo, List.getElem_map, List.getElem_range]
    by_cases hik : k = i
    · subst hik; simp [h]
    · rw [if_neg hik]
      by_cases h3 : i < k
      · rw [if_pos h3, if_pos (by omega)]
      · rw [if_neg h3, if_neg (by omega)]
theorem tellTo_all (N : Nat) (g : Nat → Nat) : tellTo N g N = (List.range N).map (fun v => ((g v : Nat) : Int)) := by
  unfold tellTo
  refine List.map_congr_left fun v hv => ?_
  rw [if_pos (List.mem_range.1 hv)]
end Go.Proofs.YtnfaibenekninaaGreat.L

set_option linter.unusedVariables false
set_option linter.unusedSimpArgs false
namespace Go.Proofs.YtnfaibenekninaaGreat.L
open Go.RowKit
/-- Strict dominators come first. -/
theorem Rch.either {next : List (List Int)} {d k : Int} (hdk : d ≠ k) {x : Int} (h : Rch next (fun x => x ≠ -1) 0 x) :
    Rch next (fun x => x ≠ d ∧ x ≠ k) 0 x ∨ Rch next (fun x => x ≠ k) 0 d ∨ Rch next (fun x => x ≠ d) 0 k := by
  induction h with
  | start _ =>
    by_cases h1 : (0 : Int) = d
    · subst h1; exact .inr (.inl (.start hdk))
    · by_cases h2 : (0 : Int) = k
      · subst h2; exact .inr (.inr (.start h1))
      · exact .inl (.start ⟨h1, h2⟩)
  | @step y x l hr h0 hl hx hok ih =>
    rcases ih with ih | ih | ih
    · by_cases h1 : x = d
      · subst h1; exact .inr (.inl (.step (ih.mono (fun _ h => h.2)) h0 hl hx hdk))
      · by_cases h2 : x = k
        · subst h2; exact .inr (.inr (.step (ih.mono (fun _ h => h.1)) h0 hl hx h1))
        · exact .inl (.step ih h0 hl hx ⟨h1, h2⟩)
    · exact .inr (.inl ih)
    · exact .inr (.inr ih)
theorem Rch.pass {next : List (List Int)} {d e : Int} {x : Int} (h : Rch next (fun x => x ≠ e) 0 x) : Rch next (fun x => x ≠ d) 0 x ∨ Rch next (fun x => x ≠ e) 0 d := by
  induction h with
  | start he =>
    by_cases h1 : (0 : Int) = d
    · subst h1; exact .inr (.start he)
    · exact .inl (.start h1)
  | @step y x l hr h0 hl hx hok ih =>
    rcases ih with ih | ih
    · by_cases h1 : x = d
      · subst h1; exact .inr (.step hr h0 hl hx hok)
      · exact .inl (.step ih h0 hl hx h1)
    · exact .inr ih
theorem Dom.antisymm {next : List (List Int)} {k d : Int} (h1 : Dom next k d) (h2 : Dom next d k) : d = k := by
  refine Classical.byContradiction fun hne => ?_
  rcases Rch.either hne h1.1 with h | h | h
  · exact h.ok_of.2 rfl
  · exact h2.2.2 h
  · exact h1.2.2 h
theorem Dom.trans {next : List (List Int)} {k d e : Int} (h1 : Dom next k d) (h2 : Dom next d e) : Dom next k e :=
  ⟨h1.1, h2.2.1, fun hr => by
    rcases Rch.pass (d := d) hr with h | h
    · exact h1.2.2 h
    · exact h2.2.2 h⟩
theorem filter_le {α : Type} {p q : α → Bool} : ∀ {l : List α}, (∀ x ∈ l, p x = true → q x = true) → (l.filter p).length ≤ (l.filter q).length
  | [], _ => Nat.le_refl _
  | y :: t, h => by
    have h1 := filter_le (fun z hz => h z (List.mem_cons_of_mem _ hz)) (l := t)
    have h2 := h y List.mem_cons_self
    cases hp : p y
    · rw [List.filter_cons_of_neg (by simp [hp])]
      cases hq : q y
      · rw [List.filter_cons_of_neg (by simp [hq])]; exact h1
      · rw [List.filter_cons_of_pos hq, List.length_cons]; omega
    · rw [List.filter_cons_of_pos hp, List.filter_cons_of_pos (h2 hp), List.length_cons, List.length_cons]; omega
theorem filter_lt {α : Type} {p q : α → Bool} {a : α} (hp : p a = false) (hq : q a = true) : ∀ {l : List α}, (∀ x ∈ l, p x = true → q x = true) → a ∈ l → (l.filter p).length < (l.filter q).length
  | [], _, ha => by cases ha
  | x :: t, h, ha => by
    have hle := filter_le (fun z hz => h z (List.mem_cons_of_mem _ hz)) (l := t)
    by_cases hax : a = x
    · subst hax
      rw [List.filter_cons_of_neg (by simp [hp]), List.filter_cons_of_pos hq, List.length_cons]; omega
    · have hat : a ∈ t := (List.mem_cons.1 ha).resolve_left hax
      have h1 := filter_lt hp hq (fun z hz => h z (List.mem_cons_of_mem _ hz)) hat
      have h2 := h x List.mem_cons_self
      cases hpx : p x
      · rw [List.filter_cons_of_neg (by simp [hpx])]
        cases hqx : q x
        · rw [List.filter_cons_of_neg (by simp [hqx])]; exact h1
        · rw [List.filter_cons_of_pos hqx, List.length_cons]; omega
      · rw [List.filter_cons_of_pos hpx, List.filter_cons_of_pos (h2 hpx), List.length_cons, List.length_cons]; omega
theorem dom_rank {next : List (List Int)} (hr : InR next) (h0 : 0 < next.length) : ∃ rk : Int → Nat, (∀ k, rk k ≤ next.length) ∧ ∀ k d, Dom next k d → d ≠ k → rk d < rk k := by
  classical
  refine ⟨fun k => ((List.range next.length).filter (fun (e : Nat) => decide (Dom next k (e : Int)))).length, fun k => ?_, fun k d hd hne => ?_⟩
  · exact Nat.le_trans (List.length_filter_le _ _) (by simp)
  · have hk := hd.1.range (by omega) hr
    refine filter_lt (a := k.toNat) ?_ ?_ (fun e _ he => ?_) (List.mem_range.2 (by omega))
    · simp only [decide_eq_false_iff_not]
      intro h
      rw [show ((k.toNat : Nat) : Int) = k by omega] at h
      exact hne (Dom.antisymm hd h)
    · simp only [decide_eq_true_eq]
      rw [show ((k.toNat : Nat) : Int) = k by omega]
      exact ⟨hd.1, hd.1, fun h => h.ok_of rfl⟩
    · simp only [decide_eq_true_eq] at he ⊢
      exact hd.trans he
/-- How a value comes to be: the step that sets it, or of a param its part and place. -/
structure Df where
  step : Fl
  part : Int
  at_ : Int
deriving DecidableEq
def fl0 : Fl := ⟨0, 0, 0, 0, 0, 0⟩
def df0 : Df := ⟨fl0, -1, 0⟩
def dfParam (q : Nat) (D : List Df) (l : List Int) (j : Nat) : List Df := (List.range j).foldl (fun D i => D.set (l.getD i 0).toNat ⟨fl0, q, i⟩) D
def dfStep (D : List Df) (x : Fl) : List Df := if setsS x then D.set x.dst.toNat ⟨x, -1, 0⟩ else D
def dfCode (D : List Df) (l : List Fl) : List Df := l.foldl dfStep D
def dfPart (q : Nat) (D : List Df) (p : Pt) : List Df := dfCode (dfParam q D p.params p.params.length) p.code
def dfTo (s : Sa) (k : Nat) : List Df := (List.range k).foldl (fun D q => match s.parts[q]? with | some p => dfPart q D p | none => D) (List.replicate s.values.toNat df0)
def dfAll (s : Sa) : List Df := dfTo s s.parts.length
theorem dfTo_succ {s : Sa} {k : Nat} {p : Pt} (hk : s.parts[k]? = some p) : dfTo s (k + 1) = dfPart k (dfTo s k) p := by
  unfold dfTo
  rw [List.range_succ, List.foldl_append]
  simp [hk]
theorem dfParam_succ {q : Nat} {D : List Df} {l : List Int} {j : Nat} : dfParam q D l (j + 1) = (dfParam q D l j).set (l.getD j 0).toNat ⟨fl0, q, j⟩ := by
  unfold dfParam
  rw [List.range_succ, List.foldl_append]
  rfl
theorem dfCode_take {D : List Df} {l : List Fl} {j : Nat} (hj : j < l.length) : dfCode D (l.take (j + 1)) = dfStep (dfCode D (l.take j)) l[j] := by
  unfold dfCode
  rw [List.take_succ_eq_append_getElem hj, List.foldl_append]
  rfl
/-- What is handed for a param: by one part, by all. -/
def handP (p : Pt) (q i : Int) (m : Nat) : List Int := (List.range m).flatMap (fun w => if p.next.getD w 0 = q then [(p.args.getD w []).getD i.toNat 0] else [])
def handS (l : List Pt) (q i : Int) : List Int := l.flatMap (fun p => handP p q i p.next.length)
theorem handP_succ (p : Pt) (q i : Int) (m : Nat) : handP p q i (m + 1) = handP p q i m ++ (if p.next.getD m 0 = q then [(p.args.getD m []).getD i.toNat 0] else []) := by
  unfold handP
  rw [List.range_succ, List.flatMap_append]
  simp
theorem handS_take {l : List Pt} {k : Nat} (hk : k < l.length) (q i : Int) : handS (l.take (k + 1)) q i = handS (l.take k) q i ++ handP l[k] q i l[k].next.length := by
  unfold handS
  rw [List.take_succ_eq_append_getElem hk, List.flatMap_append]
  simp
theorem handP_len (p : Pt) (q i : Int) (m : Nat) : (handP p q i m).length ≤ m := by
  induction m with
  | zero => simp [handP]
  | succ m ih => rw [handP_succ, List.length_append]; split <;> simp <;> omega
theorem handS_len {l : List Pt} {q i : Int} {B : Nat} (h : ∀ p ∈ l, p.next.length ≤ B) : (handS l q i).length ≤ l.length * B := by
  induction l with
  | nil => simp [handS]
  | cons p t ih =>
    have h1 := ih (fun r hr => h r (List.mem_cons_of_mem _ hr))
    have h2 := handP_len p q i p.next.length
    have h3 := h p List.mem_cons_self
    have e : handS (p :: t) q i = handP p q i p.next.length ++ handS t q i := by unfold handS; rw [List.flatMap_cons]
    rw [e, List.length_append, List.length_cons, Nat.succ_mul]
    omega
theorem mem_handS {l : List Pt} {q i v : Int} (h : v ∈ handS l q i) : ∃ p ∈ l, ∃ w, w < p.next.length ∧ p.next.getD w 0 = q ∧ v = (p.args.getD w []).getD i.toNat 0 := by
  unfold handS at h
  obtain ⟨p, hp, hv⟩ := List.mem_flatMap.1 h
  unfold handP at hv
  obtain ⟨w, hw, hv⟩ := List.mem_flatMap.1 hv
  split at hv
  · rename_i hq
    exact ⟨p, hp, w, List.mem_range.1 hw, hq, by simpa using hv⟩
  · simp at hv
/-- What the program keeps of a value. -/
structure Mkr where
  kind : Int
  n : Int
  uses : List Int
  copy : Int
deriving DecidableEq
def mk0 (v : Nat) : Mkr := if 8 ≤ v ∧ v < 12 then ⟨1, 0, [], -1⟩ else ⟨0, v, [], -1⟩
def mkParam (s : Sa) (q : Nat) (M : List Mkr) (l : List Int) (j : Nat) : List Mkr := (List.range j).foldl (fun M i => M.set (l.getD i 0).toNat ⟨3, q, handS s.parts q i, -1⟩) M
def mkStep (M : List Mkr) (x : Fl) : List Mkr :=
  if x.op = 1 then M.set x.dst.toNat ⟨1, x.n, [], -1⟩ else if x.op = 3 then M.set x.dst.toNat ⟨2, x.dO, [x.a, x.b], -1⟩ else if x.op = 2 then M.set x.dst.toNat { M.getD x.dst.toNat (mk0 0) with copy := x.a } else M
def mkCode (M : List Mkr) (l : List Fl) : List Mkr := l.foldl mkStep M
def mkPart (s : Sa) (q : Nat) (M : List Mkr) (p : Pt) : List Mkr := mkCode (mkParam s q M p.params p.params.length) p.code
def mkTo (s : Sa) (k : Nat) : List Mkr := (List.range k).foldl (fun M q => match s.parts[q]? with | some p => mkPart s q M p | none => M) ((List.range s.values.toNat).map mk0)
theorem mkTo_succ {s : Sa} {k : Nat} {p : Pt} (hk : s.parts[k]? = some p) : mkTo s (k + 1) = mkPart s k (mkTo s k) p := by
  unfold mkTo
  rw [List.range_succ, List.foldl_append]
  simp [hk]
theorem mkParam_succ {s : Sa} {q : Nat} {M : List Mkr} {l : List Int} {j : Nat} : mkParam s q M l (j + 1) = (mkParam s q M l j).set (l.getD j 0).toNat ⟨3, q, handS s.parts q j, -1⟩ := by
  unfold mkParam
  rw [List.range_succ, List.foldl_append]
  rfl
theorem mkCode_take {M : List Mkr} {l : List Fl} {j : Nat} (hj : j < l.length) : mkCode M (l.take (j + 1)) = mkStep (mkCode M (l.take j)) l[j] := by
  unfold mkCode
  rw [List.take_succ_eq_append_getElem hj, List.foldl_append]
  rfl
/-- The one by the other. -/
def mkOf (s : Sa) (v : Nat) (d : Df) : Mkr :=
  if 0 ≤ d.part then ⟨3, d.part, handS s.parts d.part d.at_, -1⟩ else if d.step.op = 1 then ⟨1, d.step.n, [], -1⟩ else if d.step.op = 3 then ⟨2, d.step.dO, [d.step.a, d.step.b], -1⟩ else if d.step.op = 2 then { mk0 v with copy := d.step.a } else mk0 v
theorem mkOf_df0 (s : Sa) (v : Nat) : mkOf s v df0 = mk0 v := by unfold mkOf df0 fl0; simp
/-- The two tables in step: L has come to be so far. -/
structure Both (s : Sa) (L : List Int) (M : List Mkr) (D : List Df) : Prop where
  lm : M.length = s.values.toNat
  ld : D.length = s.values.toNat
  eq : ∀ v, v < s.values.toNat → M.getD v (mk0 0) = mkOf s v (D.getD v df0)
  fresh : ∀ v, v < s.values.toNat → (v : Int) ∉ L → D.getD v df0 = df0
theorem getD_set2g {α : Type} {D : List α} {m n : Nat} {k z : α} (hm : m < D.length) : (D.set m k).getD n z = if n = m then k else D.getD n z := by
  rw [List.getD_eq_getElem?_getD, List.getElem?_set, List.getD_eq_getElem?_getD]
  by_cases h : m = n
  · subst h; rw [if_pos rfl, if_pos hm, if_pos rfl]; rfl
  · rw [if_neg h, if_neg (fun h' => h h'.symm)]
theorem Both.set {s : Sa} {L : List Int} {M : List Mkr} {D : List Df} (h : Both s L M D) {a : Int} (ha : 0 ≤ a ∧ a < s.values) {d : Df} {m : Mkr} (hm : m = mkOf s a.toNat d) : Both s (L ++ [a]) (M.set a.toNat m) (D.set a.toNat d) := by
  have hl : a.toNat < s.values.toNat := by omega
  refine ⟨by rw [List.length_set]; exact h.lm, by rw [List.length_set]; exact h.ld, fun v hv => ?_, fun v hv hn => ?_⟩
  · rw [getD_set2g (by rw [h.lm]; exact hl), getD_set2g (by rw [h.ld]; exact hl)]
    by_cases hva : v = a.toNat
    · rw [if_pos hva, if_pos hva, hva]; exact hm
    · rw [if_neg hva, if_neg hva]; exact h.eq v hv
  · rw [getD_set2g (by rw [h.ld]; exact hl)]
    have h1 : v ≠ a.toNat := fun he => hn (List.mem_append.2 (.inr (by rw [he]; simp; omega)))
    rw [if_neg h1]
    exact h.fresh v hv (fun hL => hn (List.mem_append.2 (.inl hL)))
theorem Both.keep {s : Sa} {L : List Int} {M : List Mkr} {D : List Df} (h : Both s L M D) {a : Int} (ha : 0 ≤ a ∧ a < s.values) {d : Df} (hm : M.getD a.toNat (mk0 0) = mkOf s a.toNat d) : Both s (L ++ [a]) M (D.set a.toNat d) := by
  have hl : a.toNat < s.values.toNat := by omega
  have := h.set ha hm
  have e : M.set a.toNat (M.getD a.toNat (mk0 0)) = M := by
    rw [List.getD_eq_getElem?_getD, List.getElem?_eq_getElem (by rw [h.lm]; exact hl)]
    exact List.set_getElem_self _
  rwa [e] at this
theorem Both.params {s : Sa} {q : Nat} {l : List Int} (hl : ∀ v ∈ l, 0 ≤ v ∧ v < s.values) {L : List Int} {M : List Mkr} {D : List Df} (h : Both s L M D) : ∀ j, j ≤ l.length → Both s (L ++ l.take j) (mkParam s q M l j) (dfParam q D l j) := by
  intro j
  induction j with
  | zero => intro _; simpa [mkParam, dfParam] using h
  | succ j ih =>
    intro hj
    have hjl : j < l.length := by omega
    have e : l.getD j 0 = l[j] := by rw [List.getD_eq_getElem?_getD, List.getElem?_eq_getElem hjl]; rfl
    rw [mkParam_succ, dfParam_succ, List.take_succ_eq_append_getElem hjl, ← List.append_assoc, e]
    refine (ih (by omega)).set (hl _ (List.getElem_mem hjl)) ?_
    unfold mkOf
    simp
theorem Both.code {s : Sa} : ∀ {l : List Fl} (hl : ∀ x ∈ l, setsS x = true → 12 ≤ x.dst ∧ x.dst < s.values) {L : List Int} {M : List Mkr} {D : List Df} (hn : (dstsS l).Nodup) (hL : ∀ v ∈ dstsS l, v ∉ L) (h : Both s L M D), Both s (L ++ dstsS l) (mkCode M l) (dfCode D l)
  | [], _, L, M, D, _, _, h => by simpa [dstsS, mkCode, dfCode] using h
  | x :: t, hl, L, M, D, hn, hL, h => by
    have hx := hl x List.mem_cons_self
    have hops : setsS x = true → x.op = 1 ∨ x.op = 2 ∨ x.op = 3 ∨ x.op = 4 := by unfold setsS inB; simp; omega
    have hnot : setsS x = false → x.op ≠ 1 ∧ x.op ≠ 3 ∧ x.op ≠ 2 := by unfold setsS inB; simp; omega
    show Both s (L ++ dstsS (x :: t)) (mkCode (mkStep M x) t) (dfCode (dfStep D x) t)
    unfold dstsS at hn hL ⊢
    rw [List.filter_cons] at hn hL ⊢
    unfold dfStep
    cases hs : setsS x
    · rw [hs] at hn hL
      obtain ⟨o1, o3, o2⟩ := hnot hs
      simp only [Bool.false_eq_true, if_false] at hn hL ⊢
      have e : mkStep M x = M := by unfold mkStep; rw [if_neg o1, if_neg o3, if_neg o2]
      rw [e]
      exact Both.code (fun y hy => hl y (List.mem_cons_of_mem _ hy)) hn hL h
    · rw [hs] at hn hL
      simp only [if_true, List.map_cons] at hn hL ⊢
      have hd := hx hs
      have hd0 : 0 ≤ x.dst ∧ x.dst < s.values := ⟨by omega, hd.2⟩
      obtain ⟨hn1, hn2⟩ := List.nodup_cons.1 hn
      have hfr := h.fresh x.dst.toNat (by omega) (by rw [show ((x.dst.toNat : Nat) : Int) = x.dst by omega]; exact hL _ List.mem_cons_self)
      have hmd := h.eq x.dst.toNat (by omega)
      rw [hfr, mkOf_df0] at hmd
      have key : Both s (L ++ [x.dst]) (mkStep M x) (D.set x.dst.toNat ⟨x, -1, 0⟩) := by
        unfold mkStep
        rcases hops hs with o | o | o | o
        · rw [if_pos o]
          exact h.set hd0 (by unfold mkOf; simp [o])
        · rw [if_neg (by omega), if_neg (by omega), if_pos o]
          exact h.set hd0 (by rw [hmd]; unfold mkOf; simp [o])
        · rw [if_neg (by omega), if_pos o]
          exact h.set hd0 (by unfold mkOf; simp [o])
        · rw [if_neg (by omega), if_neg (by omega), if_neg (by omega)]
          exact h.keep hd0 (by rw [hmd]; unfold mkOf; simp [o])
      have := Both.code (l := t) (fun y hy => hl y (List.mem_cons_of_mem _ hy)) hn2 (fun v hv hm => by
        rcases List.mem_append.1 hm with hm | hm
        · exact hL v (List.mem_cons_of_mem _ hv) hm
        · rw [List.mem_singleton.1 hm] at hv; exact hn1 hv) key
      rw [List.append_assoc] at this
      exact this
theorem both_to {s : Sa} (h : GoodP s) : ∀ k, k ≤ s.parts.length → Both s ((s.parts.take k).flatMap ownS) (mkTo s k) (dfTo s k) := by
  intro k
  induction k with
  | zero =>
    intro _
    refine ⟨by simp [mkTo], by simp [dfTo], fun v hv => ?_, fun v hv _ => ?_⟩
    · have e1 : (mkTo s 0).getD v (mk0 0) = mk0 v := by simp [mkTo, List.getD_eq_getElem?_getD, hv]
      have e2 : (dfTo s 0).getD v df0 = df0 := by simp [dfTo, List.getD_eq_getElem?_getD, hv]
      rw [e1, e2, mkOf_df0]
    · simp [dfTo, List.getD_eq_getElem?_getD, hv]
  | succ k ih =>
    intro hk
    have hkl : k < s.parts.length := by omega
    have hp : s.parts[k]? = some s.parts[k] := List.getElem?_eq_getElem hkl
    have hm := List.getElem_mem hkl
    rw [mkTo_succ hp, dfTo_succ hp, List.take_succ_eq_append_getElem hkl, List.flatMap_append]
    have hb := ih (by omega)
    have hnd := h.own_nodup hm
    have hown := fun v (hv : v ∈ ownS s.parts[k]) => h.own_def hp hv
    have hout : ∀ v ∈ ownS s.parts[k], v ∉ (s.parts.take k).flatMap ownS := by
      intro v hv hh
      obtain ⟨r, hr, hvr⟩ := List.mem_flatMap.1 hh
      obtain ⟨j, hj, rfl⟩ := List.mem_take_iff_getElem.1 hr
      have h1 := (h.own_def (q := j) (List.getElem?_eq_getElem (by omega)) hvr).2.2
      have h2 := (hown v hv).2.2
      rw [h1] at h2
      omega
    have hn2 := List.nodup_append.1 hnd
    have hp1 := hb.params (q := k) (l := s.parts[k].params) (fun v hv => by have := hown v (List.mem_append.2 (.inl hv)); omega) s.parts[k].params.length (Nat.le_refl _)
    rw [List.take_length] at hp1
    have hp2 := Both.code (l := s.parts[k].code) (fun x hx hs => by
      have hd : x.dst ∈ dstsS s.parts[k].code := List.mem_map.2 ⟨x, List.mem_filter.2 ⟨hx, hs⟩, rfl⟩
      have := hown x.dst (List.mem_append.2 (.inr hd)); omega) hn2.2.1 (fun v hv hmm => by
      rcases List.mem_append.1 hmm with hmm | hmm
      · exact hout v (List.mem_append.2 (.inr hv)) hmm
      · exact hn2.2.2 v hmm v hv rfl) hp1
    have e : [s.parts[k]].flatMap ownS = s.parts[k].params ++ dstsS s.parts[k].code := by simp [ownS]
    rw [e, ← List.append_assoc]
    exact hp2
/-- Where each comes from. -/
def DfOk (s : Sa) (v : Nat) (d : Df) : Prop :=
  d = df0 ∨ (∃ (q : Nat) (p : Pt) (i : Nat), s.parts[q]? = some p ∧ p.params[i]? = some (v : Int) ∧ d = ⟨fl0, q, i⟩) ∨
    (∃ (q : Nat) (p : Pt) (j : Nat) (x : Fl), s.parts[q]? = some p ∧ p.code[j]? = some x ∧ setsS x = true ∧ x.dst = v ∧ d = ⟨x, -1, 0⟩)
theorem dfOk_params {s : Sa} {q : Nat} {p : Pt} (hq : s.parts[q]? = some p) (hl : ∀ v ∈ p.params, 0 ≤ v ∧ v < s.values) {D : List Df} (hD : D.length = s.values.toNat) (h : ∀ v, v < s.values.toNat → DfOk s v (D.getD v df0)) : ∀ j, j ≤ p.params.length → (dfParam q D p.params j).length = s.values.toNat ∧ ∀ v, v < s.values.toNat → DfOk s v ((dfParam q D p.params j).getD v df0) := by
  intro j
  induction j with
  | zero => intro _; exact ⟨hD, h⟩
  | succ j ih =>
    intro hj
    obtain ⟨h1, h2⟩ := ih (by omega)
    have hjl : j < p.params.length := by omega
    have e : p.params.getD j 0 = p.params[j] := by rw [List.getD_eq_getElem?_getD, List.getElem?_eq_getElem hjl]; rfl
    have hv := hl _ (List.getElem_mem hjl)
    rw [dfParam_succ, e]
    refine ⟨by rw [List.length_set]; exact h1, fun v hvv => ?_⟩
    rw [getD_set2g (by omega)]
    split
    · rename_i hva
      exact .inr (.inl ⟨q, p, j, hq, by rw [List.getElem?_eq_getElem hjl, hva]; simp; omega, rfl⟩)
    · exact h2 v hvv
theorem dfOk_code {s : Sa} {q : Nat} {p : Pt} (hq : s.parts[q]? = some p) (hl : ∀ x ∈ p.code, setsS x = true → 0 ≤ x.dst ∧ x.dst < s.values) {D : List Df} (hD : D.length = s.values.toNat) (h : ∀ v, v < s.values.toNat → DfOk s v (D.getD v df0)) : ∀ j, j ≤ p.code.length → (dfCode D (p.code.take j)).length = s.values.toNat ∧ ∀ v, v < s.values.toNat → DfOk s v ((dfCode D (p.code.take j)).getD v df0) := by
  intro j
  induction j with
  | zero => intro _; exact ⟨hD, h⟩
  | succ j ih =>
    intro hj
    obtain ⟨h1, h2⟩ := ih (by omega)
    have hjl : j < p.code.length := by omega
    rw [dfCode_take hjl]
    unfold dfStep
    split
    · rename_i hs
      have hv := hl _ (List.getElem_mem hjl) hs
      refine ⟨by rw [List.length_set]; exact h1, fun v hvv => ?_⟩
      rw [getD_set2g (by omega)]
      split
      · rename_i hva
        exact .inr (.inr ⟨q, p, j, p.code[j], hq, List.getElem?_eq_getElem hjl, hs, by omega, rfl⟩)
      · exact h2 v hvv
    · exact ⟨h1, h2⟩
theorem dfOk_to {s : Sa} (h : GoodP s) : ∀ k, k ≤ s.parts.length → (dfTo s k).length = s.values.toNat ∧ ∀ v, v < s.values.toNat → DfOk s v ((dfTo s k).getD v df0) := by
  intro k
  induction k with
  | zero =>
    intro _
    refine ⟨by simp [dfTo], fun v hv => ?_⟩
    have e2 : (dfTo s 0).getD v df0 = df0 := by simp [dfTo, List.getD_eq_getElem?_getD, hv]
    rw [e2]; exact .inl rfl
  | succ k ih =>
    intro hk
    have hkl : k < s.parts.length := by omega
    have hp : s.parts[k]? = some s.parts[k] := List.getElem?_eq_getElem hkl
    obtain ⟨h1, h2⟩ := ih (by omega)
    rw [dfTo_succ hp]
    have hown := fun v (hv : v ∈ ownS s.parts[k]) => h.own_def hp hv
    obtain ⟨h3, h4⟩ := dfOk_params hp (fun v hv => by have := hown v (List.mem_append.2 (.inl hv)); omega) h1 h2 _ (Nat.le_refl _)
    have := dfOk_code hp (fun x hx hs => by
      have hd : x.dst ∈ dstsS s.parts[k].code := List.mem_map.2 ⟨x, List.mem_filter.2 ⟨hx, hs⟩, rfl⟩
      have := hown x.dst (List.mem_append.2 (.inr hd)); omega) h3 h4 _ (Nat.le_refl _)
    rwa [List.take_length] at this
end Go.Proofs.YtnfaibenekninaaGreat.L

set_option linter.unusedVariables false
set_option linter.unusedSimpArgs false
namespace Go.Proofs.YtnfaibenekninaaGreat.L
open Go.RowKit
theorem GoodP.own_len {s : Sa} (h : GoodP s) {p : Pt} (hp : p ∈ s.parts) : (ownS p).length ≤ 250 := by
  obtain ⟨q, hq, hqe⟩ := List.getElem_of_mem hp
  have hq' : s.parts[q]? = some p := by rw [List.getElem?_eq_getElem hq, hqe]
  exact len_nodup_range (h.own_nodup hp) (fun x hx => by have := h.own_def hq' hx; have := h.v2; omega)
theorem usesS_in {x : Fl} (hs : x.op = 2 ∨ x.op = 3) : x.a ∈ usesS x ∧ (x.op = 3 → x.b ∈ usesS x) := by
  unfold usesS
  rcases hs with h | h <;> simp [h]
/-- The args of a part for a param's place are there. -/
theorem fitS_get {parts : List Pt} : ∀ {ks : List Int} {l : List (List Int)}, fitS parts ks l = true → ∀ w, w < ks.length → ∃ q, parts[(ks.getD w 0).toNat]? = some q ∧ (l.getD w []).length = q.params.length
  | [], [], _, w, hw => by simp at hw
  | [], _ :: _, h, _, _ => by simp [fitS] at h
  | _ :: _, [], h, _, _ => by simp [fitS] at h
  | k :: ks, b :: l, h, w, hw => by
    simp only [fitS, Bool.and_eq_true] at h
    cases w with
    | zero =>
      cases hq : parts[k.toNat]? with
      | none => rw [hq] at h; simp at h
      | some q =>
        rw [hq] at h
        exact ⟨q, by simpa using hq, by simpa using h.1⟩
    | succ w =>
      have := fitS_get h.2 w (by simpa using hw)
      simpa using this
theorem GoodP.edge {s : Sa} (h : GoodP s) {p : Pt} (hp : p ∈ s.parts) {w : Nat} (hw : w < p.next.length) : w < p.args.length ∧ ∃ q, s.parts[(p.next.getD w 0).toNat]? = some q ∧ (p.args.getD w []).length = q.params.length := by
  have hs := h.static hp
  refine ⟨Nat.lt_of_lt_of_le hw (static_args hs), ?_⟩
  have ha := hs
  unfold staticI at ha
  simp only [Bool.and_eq_true] at ha
  obtain ⟨⟨⟨hc, hg⟩, h0⟩, ha⟩ := ha
  unfold argsS at ha
  split at ha
  · rename_i h3
    unfold goB at hg
    simp only [Bool.and_eq_true] at hg
    have hg := hg.2
    rw [beq_iff_eq] at h3
    rw [h3] at hg
    have h0 : p.next.length = 0 := by simpa using hg
    omega
  · exact fitS_get ha w hw
theorem GoodP.handed {s : Sa} (h : GoodP s) {q : Nat} {p : Pt} (hq : s.parts[q]? = some p) {i : Nat} (hi : i < p.params.length) : ∀ v ∈ handS s.parts q i, 0 ≤ v ∧ v < s.values := by
  intro v hv
  obtain ⟨r, hr, w, hw, hn, rfl⟩ := mem_handS hv
  obtain ⟨ha, t, ht, hl⟩ := h.edge hr hw
  rw [hn] at ht
  have e : t = p := by
    rw [show ((q : Int)).toNat = q by omega, hq] at ht
    exact (Option.some.inj ht).symm
  subst e
  obtain ⟨k, hk, hke⟩ := List.getElem_of_mem hr
  refine h.use_in (q := k) (p := r) (by rw [List.getElem?_eq_getElem hk, hke]) (.inl ?_)
  unfold endsS
  have e1 : r.args.getD w [] = r.args[w] := by rw [List.getD_eq_getElem?_getD, List.getElem?_eq_getElem ha]; rfl
  rw [e1] at hl ⊢
  have hi2 : ((i : Int)).toNat < r.args[w].length := by omega
  refine List.mem_append.2 (.inr (List.mem_flatten.2 ⟨r.args[w], List.getElem_mem ha, ?_⟩))
  rw [List.getD_eq_getElem?_getD, List.getElem?_eq_getElem hi2]
  exact List.getElem_mem hi2
/-- A value's rank: copies are of values of lower rank. -/
structure Ranked (n : Nat) (D : List Df) (rank : Nat → Nat) : Prop where
  lt : ∀ v, v < n → rank v < 20000
  cp : ∀ v, v < n → (D.getD v df0).step.op = 2 → 0 ≤ (D.getD v df0).step.a ∧ (D.getD v df0).step.a.toNat < n ∧ rank (D.getD v df0).step.a.toNat < rank v
theorem idx_far {far rest : List Int} {a v : Int} (h : (far ++ rest).Nodup) (ha : a ∈ far) (hv : v ∈ rest) : (far ++ rest).idxOf a < (far ++ rest).idxOf v := by
  have hvf : v ∉ far := fun hh => (List.nodup_append.1 h).2.2 v hh v hv rfl
  rw [List.idxOf_append, if_pos ha, List.idxOf_append, if_neg hvf]
  have := List.idxOf_lt_length_of_mem ha
  omega
theorem rank_ex {s : Sa} (h : GoodP s) : ∃ rank : Nat → Nat, Ranked s.values.toNat (dfAll s) rank := by
  have hgl := graphS_len s.parts
  have hn1 := h.n1
  have hn2 := h.n2
  have hv1 := h.v1
  obtain ⟨rk, hr1, hr2⟩ := dom_rank (next := graphS s.parts) (graphS_inR h.nx) (by omega)
  obtain ⟨hdl, hdf⟩ := dfOk_to h s.parts.length (Nat.le_refl _)
  have hidx : ∀ (q : Nat) (p : Pt) (v : Int), s.parts[q]? = some p → (ownS p).idxOf v ≤ 250 := fun q p v hq => Nat.le_trans List.idxOf_le_length (h.own_len (List.mem_of_getElem? hq))
  have hdef : ∃ df : Nat → Int, df = fun v => ((defsS s).getD [])[v]! := ⟨_, rfl⟩
  obtain ⟨df, hdfe⟩ := hdef
  refine ⟨fun v => if v < 12 then 0 else match s.parts[(df v).toNat]? with | some p => 1 + rk (df v) * 1000 + (ownS p).idxOf (v : Int) | none => 0, fun v hv => ?_, fun v hv hop => ?_⟩
  · split
    · omega
    · split
      · rename_i p hp
        have h1 := hr1 (df v)
        have h2 := hidx _ p v hp
        have h3 : rk (df v) * 1000 ≤ 11 * 1000 := Nat.mul_le_mul_right _ (by omega)
        omega
      · omega
  · rcases hdf v hv with hd | ⟨q, p, i, hq, hi, hd⟩ | ⟨q, p, j, x, hq, hj, hs, hx, hd⟩
    · unfold dfAll at hop; rw [hd] at hop; simp [df0, fl0] at hop
    · unfold dfAll at hop; rw [hd] at hop; simp [fl0] at hop
    · unfold dfAll at hop ⊢
      rw [hd] at hop ⊢
      dsimp only at hop ⊢
      have hva : v = x.dst.toNat := by omega
      have hdm : x.dst ∈ dstsS p.code := List.mem_map.2 ⟨x, List.mem_filter.2 ⟨List.mem_of_getElem? hj, hs⟩, rfl⟩
      have hov : x.dst ∈ ownS p := List.mem_append.2 (.inr hdm)
      obtain ⟨hd1, hd2, hd3⟩ := h.own_def hq hov
      have hdv : df v = q := by rw [hdfe, hva]; exact hd3
      have hau := (usesS_in (x := x) (.inl hop)).1
      obtain ⟨ha0, ha1, ht⟩ := (h.us q p hq).code j x hj x.a hau
      have hdlen := h.defs_len
      refine ⟨ha0, by omega, ?_⟩
      have hvr : ¬ v < 12 := by omega
      have hqn : (((q : Nat) : Int)).toNat = q := by omega
      rw [if_neg hvr, hdv, hqn, hq]
      dsimp only
      by_cases ha12 : x.a.toNat < 12
      · rw [if_pos ha12]; omega
      · rw [if_neg ha12]
        have hda : df x.a.toNat = ((defsS s).getD [])[x.a.toNat]! := by rw [hdfe]
        have hca : ((x.a.toNat : Nat) : Int) = x.a := by omega
        have hcv : ((v : Nat) : Int) = x.dst := hx.symm
        rw [hca, hcv]
        rcases ht with ht | ht | ⟨ht1, ht2, ht3⟩
        · omega
        · have hoa : x.a ∈ ownS p := by
            rcases List.mem_append.1 ht with h1 | h1
            · exact List.mem_append.2 (.inl h1)
            · unfold dstsS at h1
              obtain ⟨y, hy, he⟩ := List.mem_map.1 h1
              obtain ⟨hy1, hy2⟩ := List.mem_filter.1 hy
              exact List.mem_append.2 (.inr (List.mem_map.2 ⟨y, List.mem_filter.2 ⟨List.mem_of_mem_take hy1, hy2⟩, he⟩))
          have h3 := (h.own_def hq hoa).2.2
          rw [hda, h3, hqn, hq]
          dsimp only
          have hjl := (List.getElem?_eq_some_iff.1 hj).1
          have hjx := (List.getElem?_eq_some_iff.1 hj).2
          have hsplit : ownS p = (p.params ++ dstsS (p.code.take j)) ++ dstsS (p.code.drop j) := by
            unfold ownS
            rw [List.append_assoc]
            congr 1
            unfold dstsS
            rw [← List.map_append, ← List.filter_append, List.take_append_drop]
          have hvd : x.dst ∈ dstsS (p.code.drop j) := by
            refine List.mem_map.2 ⟨x, List.mem_filter.2 ⟨?_, hs⟩, rfl⟩
            rw [List.drop_eq_getElem_cons hjl, hjx]
            exact List.mem_cons_self
          have hnd := h.own_nodup (List.mem_of_getElem? hq)
          rw [hsplit] at hnd ⊢
          have := idx_far hnd ht hvd
          omega
        · rw [hda]
          have hlt := hr2 _ _ ht3 ht2
          have h5 : rk (((defsS s).getD [])[x.a.toNat]!) * 1000 + 1000 ≤ rk (q : Int) * 1000 := by
            have : (rk (((defsS s).getD [])[x.a.toNat]!) + 1) * 1000 ≤ rk (q : Int) * 1000 := Nat.mul_le_mul_right _ hlt
            rw [Nat.add_mul] at this
            omega
          split
          · rename_i p' hp'
            have h6 := hidx _ p' x.a hp'
            omega
          · omega
def rootF (D : List Df) : Nat → Nat → Nat
  | 0, v => v
  | f + 1, v => if (D.getD v df0).step.op = 2 then rootF D f (D.getD v df0).step.a.toNat else v
def rootD (D : List Df) (v : Nat) : Nat := rootF D (20000 + D.length) v
theorem rootD_eq (D : List Df) (v : Nat) : rootD D v = rootF D ((19999 + D.length) + 1) v := by
  unfold rootD
  rw [show 20000 + D.length = (19999 + D.length) + 1 by omega]
section
variable {n : Nat} {D : List Df} {rank : Nat → Nat}
theorem rootF_fuel (h : Ranked n D rank) : ∀ (f g v : Nat), v < n → rank v < f → rank v < g → rootF D f v = rootF D g v := by
  intro f
  induction f with
  | zero => intro g v _ hf; omega
  | succ f ih =>
    intro g v hv hf hg
    cases g with
    | zero => omega
    | succ g =>
      rw [rootF, rootF]
      split
      · rename_i hop
        obtain ⟨_, h2, h3⟩ := h.cp v hv hop
        exact ih g _ h2 (by omega) (by omega)
      · rfl
theorem rootD_step (h : Ranked n D rank) {v : Nat} (hv : v < n) : rootD D v = if (D.getD v df0).step.op = 2 then rootD D (D.getD v df0).step.a.toNat else v := by
  have hl := h.lt v hv
  rw [rootD_eq, rootF]
  split
  · rename_i hop
    obtain ⟨_, h2, h3⟩ := h.cp v hv hop
    rw [rootD_eq]
    exact rootF_fuel h _ _ _ h2 (by omega) (by omega)
  · rfl
theorem rootD_self {v : Nat} (hop : (D.getD v df0).step.op ≠ 2) : rootD D v = v := by
  rw [rootD_eq, rootF, if_neg hop]
theorem rootD_spec (h : Ranked n D rank) : ∀ (f v : Nat), v < n → rank v < f → rootD D v < n ∧ (D.getD (rootD D v) df0).step.op ≠ 2 := by
  intro f
  induction f with
  | zero => intro v _ hf; omega
  | succ f ih =>
    intro v hv hf
    rw [rootD_step h hv]
    split
    · rename_i hop
      obtain ⟨_, h2, h3⟩ := h.cp v hv hop
      exact ih _ h2 (by omega)
    · rename_i hop
      exact ⟨hv, hop⟩
theorem rootD_lt (h : Ranked n D rank) {v : Nat} (hv : v < n) : rootD D v < n ∧ (D.getD (rootD D v) df0).step.op ≠ 2 := rootD_spec h _ v hv (Nat.lt_succ_self _)
theorem rootD_idem (h : Ranked n D rank) {v : Nat} (hv : v < n) : rootD D (rootD D v) = rootD D v := rootD_self (rootD_lt h hv).2
end
def sortD (D : List Df) (v : Nat) : Int × Int :=
  if v < 8 ∨ (D.getD v df0).step.op = 4 then (0, v) else if v < 12 then (1, 0) else if (D.getD v df0).step.op = 1 then (1, (D.getD v df0).step.n) else if (D.getD v df0).step.op = 3 then (2, (D.getD v df0).step.dO) else if 0 ≤ (D.getD v df0).part then (3, (D.getD v df0).part) else (0, v)
def partsD (s : Sa) (D : List Df) (v : Nat) : List Int :=
  if (D.getD v df0).step.op = 3 then [(D.getD v df0).step.a, (D.getD v df0).step.b] else if (D.getD v df0).part < 0 then [] else handS s.parts (D.getD v df0).part (D.getD v df0).at_
/-- What is known of a value's own way to be. -/
theorem df_cases {s : Sa} (h : GoodP s) {v : Nat} (hv : v < s.values.toNat) : ((dfAll s).getD v df0 = df0) ∨ (12 ≤ v ∧ ∃ (q : Nat) (p : Pt) (i : Nat), s.parts[q]? = some p ∧ i < p.params.length ∧ (dfAll s).getD v df0 = ⟨fl0, q, i⟩) ∨
    (12 ≤ v ∧ ∃ (x : Fl) (q : Nat) (p : Pt), s.parts[q]? = some p ∧ x ∈ p.code ∧ (x.op = 1 ∨ x.op = 2 ∨ x.op = 3 ∨ x.op = 4) ∧ (dfAll s).getD v df0 = ⟨x, -1, 0⟩) := by
  obtain ⟨hdl, hdf⟩ := dfOk_to h s.parts.length (Nat.le_refl _)
  rcases hdf v hv with hd | ⟨q, p, i, hq, hi, hd⟩ | ⟨q, p, j, x, hq, hj, hs, hx, hd⟩
  · exact .inl hd
  · obtain ⟨h1, h2⟩ := List.getElem?_eq_some_iff.1 hi
    have := (h.own_def hq (v := (v : Int)) (List.mem_append.2 (.inl (List.mem_of_getElem? hi)))).1
    exact .inr (.inl ⟨by omega, q, p, i, hq, h1, hd⟩)
  · have hdm : x.dst ∈ dstsS p.code := List.mem_map.2 ⟨x, List.mem_filter.2 ⟨List.mem_of_getElem? hj, hs⟩, rfl⟩
    have := (h.own_def hq (List.mem_append.2 (.inr hdm))).1
    refine .inr (.inr ⟨by omega, x, q, p, hq, List.mem_of_getElem? hj, ?_, hd⟩)
    unfold setsS inB at hs
    simp at hs; omega
theorem mk_own {s : Sa} (h : GoodP s) {v : Nat} (hv : v < s.values.toNat) (hop : ((dfAll s).getD v df0).step.op ≠ 2) : mkOf s v ((dfAll s).getD v df0) = ⟨(sortD (dfAll s) v).1, (sortD (dfAll s) v).2, partsD s (dfAll s) v, -1⟩ := by
  rcases df_cases h hv with hd | ⟨h12, q, p, i, hq, hi, hd⟩ | ⟨h12, x, q, p, hq, hx, ho, hd⟩
  · unfold sortD partsD
    rw [hd, mkOf_df0]
    unfold mk0 df0 fl0
    by_cases h1 : v < 8
    · rw [if_neg (by omega)]; simp [h1]
    · by_cases h2 : v < 12
      · rw [if_pos (by omega)]; simp [h1, h2]
      · rw [if_neg (by omega)]; simp [h1, h2]
  · unfold sortD partsD
    rw [hd]
    unfold mkOf fl0
    have h1 : ¬ v < 8 := by omega
    have h2 : ¬ v < 12 := by omega
    have h3 : ¬ ((q : Int) < 0) := by omega
    simp [h1, h2, h3]
  · rw [hd] at hop
    dsimp only at hop
    unfold sortD partsD
    rw [hd]
    unfold mkOf mk0
    have h1 : ¬ v < 8 := by omega
    have h2 : ¬ v < 12 := by omega
    have h4 : ¬ (8 ≤ v ∧ v < 12) := by omega
    rcases ho with ho | ho | ho | ho
    · simp [ho, h1, h2]
    · exact absurd ho hop
    · simp [ho, h1, h2]
    · simp [ho, h1, h2, h4]
theorem mk_copy {s : Sa} (h : GoodP s) {v : Nat} (hv : v < s.values.toNat) : (mkOf s v ((dfAll s).getD v df0)).copy = if ((dfAll s).getD v df0).step.op = 2 then ((dfAll s).getD v df0).step.a else -1 := by
  split
  · rename_i hop
    rcases df_cases h hv with hd | ⟨h12, q, p, i, hq, hi, hd⟩ | ⟨h12, x, q, p, hq, hx, ho, hd⟩
    · rw [hd] at hop; simp [df0, fl0] at hop
    · rw [hd] at hop; simp [fl0] at hop
    · rw [hd] at hop ⊢
      dsimp only at hop ⊢
      unfold mkOf
      simp [hop]
  · rename_i hop
    rw [mk_own h hv hop]
theorem sort_own {s : Sa} (h : GoodP s) {v w : Nat} (hv : v < s.values.toNat) (hop : ((dfAll s).getD v df0).step.op = 2) (he : sortD (dfAll s) v = sortD (dfAll s) w) : v = w := by
  rcases df_cases h hv with hd | ⟨h12, q, p, i, hq, hi, hd⟩ | ⟨h12, x, q, p, hq, hx, ho, hd⟩
  · rw [hd] at hop; simp [df0, fl0] at hop
  · rw [hd] at hop; simp [fl0] at hop
  · have e1 : sortD (dfAll s) v = (0, (v : Int)) := by
      rw [hd] at hop
      dsimp only at hop
      unfold sortD
      rw [hd]
      have h1 : ¬ v < 8 := by omega
      have h2 : ¬ v < 12 := by omega
      simp [hop, h1, h2]
    rw [e1] at he
    unfold sortD at he
    repeat' (split at he)
    all_goals (simp only [Prod.mk.injEq] at he; omega)
theorem grp_ok {s : Sa} (h : GoodP s) : Grp s.values.toNat (sortD (dfAll s)) (fun v => (partsD s (dfAll s) v).map Int.toNat) (rootD (dfAll s)) := by
  obtain ⟨rank, hR⟩ := rank_ex h
  have hv1 := h.v1
  have hv2 := h.v2
  refine ⟨by omega, fun v hv => ⟨(rootD_lt hR hv).1, rootD_idem hR hv⟩, fun v hv u hu => ?_, fun v w hv hw hr he => ?_⟩
  · obtain ⟨m, hm, rfl⟩ := List.mem_map.1 hu
    have hin : 0 ≤ m ∧ m < s.values := by
      unfold partsD at hm
      rcases df_cases h hv with hd | ⟨h12, q, p, i, hq, hi, hd⟩ | ⟨h12, x, q, p, hq, hx, ho, hd⟩
      · rw [hd] at hm; simp [df0, fl0] at hm
      · rw [hd] at hm
        have h3 : ¬ ((q : Int) < 0) := by omega
        simp [fl0, h3] at hm
        exact h.handed hq hi m hm
      · rw [hd] at hm
        by_cases h3 : x.op = 3
        · have hus := usesS_in (x := x) (.inr h3)
          simp [h3] at hm
          refine h.use_in hq (.inr (List.mem_flatMap.2 ⟨x, hx, ?_⟩))
          rcases hm with rfl | rfl
          · exact hus.1
          · exact hus.2 h3
        · simp [h3] at hm
    omega
  · refine sort_own h hv ?_ he
    refine Classical.byContradiction fun hop => hr (rootD_self hop)
theorem parts_in {s : Sa} (h : GoodP s) {v : Nat} (hv : v < s.values.toNat) : ∀ m ∈ partsD s (dfAll s) v, 0 ≤ m ∧ m < s.values := by
  intro m hm
  unfold partsD at hm
  rcases df_cases h hv with hd | ⟨h12, q, p, i, hq, hi, hd⟩ | ⟨h12, x, q, p, hq, hx, ho, hd⟩
  · rw [hd] at hm; simp [df0, fl0] at hm
  · rw [hd] at hm
    have h3 : ¬ ((q : Int) < 0) := by omega
    simp [fl0, h3] at hm
    exact h.handed hq hi m hm
  · rw [hd] at hm
    by_cases h3 : x.op = 3
    · have hu := usesS_in (x := x) (.inr h3)
      simp [h3] at hm
      refine h.use_in hq (.inr (List.mem_flatMap.2 ⟨x, hx, ?_⟩))
      rcases hm with rfl | rfl
      · exact hu.1
      · exact hu.2 h3
    · simp [h3] at hm
theorem handP_len_eq (p : Pt) (q i j : Int) (m : Nat) : (handP p q i m).length = (handP p q j m).length := by
  induction m with
  | zero => simp [handP]
  | succ m ih => rw [handP_succ, handP_succ, List.length_append, List.length_append, ih]; split <;> rfl
theorem handS_len_eq (l : List Pt) (q i j : Int) : (handS l q i).length = (handS l q j).length := by
  induction l with
  | nil => rfl
  | cons p t ih =>
    have e : ∀ i, handS (p :: t) q i = handP p q i p.next.length ++ handS t q i := fun i => by unfold handS; rw [List.flatMap_cons]
    rw [e, e, List.length_append, List.length_append, ih, handP_len_eq p q i j]
theorem sort_len {s : Sa} (h : GoodP s) {v w : Nat} (hv : v < s.values.toNat) (hw : w < s.values.toNat) (he : sortD (dfAll s) v = sortD (dfAll s) w) : (partsD s (dfAll s) v).length = (partsD s (dfAll s) w).length := by
  have key : ∀ v, v < s.values.toNat → (sortD (dfAll s) v = (0, (v : Int)) ∨ ((∃ n, sortD (dfAll s) v = (1, n)) ∧ partsD s (dfAll s) v = []) ∨ ((∃ n, sortD (dfAll s) v = (2, n)) ∧ (partsD s (dfAll s) v).length = 2) ∨ ∃ q i : Int, sortD (dfAll s) v = (3, q) ∧ partsD s (dfAll s) v = handS s.parts q i) := by
    intro v hv
    unfold sortD partsD
    rcases df_cases h hv with hd | ⟨h12, q, p, i, hq, hi, hd⟩ | ⟨h12, x, q, p, hq, hx, ho, hd⟩
    · rw [hd]
      unfold df0 fl0
      by_cases h1 : v < 8
      · left; simp [h1]
      · by_cases h2 : v < 12
        · right; left; simp [h1, h2]
        · left; simp [h1, h2]
    · rw [hd]
      have h1 : ¬ v < 8 := by omega
      have h2 : ¬ v < 12 := by omega
      have h3 : ¬ ((q : Int) < 0) := by omega
      right; right; right
      exact ⟨q, i, by simp [fl0, h1, h2], by simp [fl0, h3]⟩
    · rw [hd]
      have h1 : ¬ v < 8 := by omega
      have h2 : ¬ v < 12 := by omega
      rcases ho with ho | ho | ho | ho
      · right; left; simp [ho, h1, h2]
      · left; simp [ho, h1, h2]
      · right; right; left; simp [ho, h1, h2]
      · left; simp [ho]
  rcases key v hv with k1 | ⟨⟨a, k1⟩, k2⟩ | ⟨⟨a, k1⟩, k2⟩ | ⟨q, i, k1, k2⟩ <;> rcases key w hw with m1 | ⟨⟨b, m1⟩, m2⟩ | ⟨⟨b, m1⟩, m2⟩ | ⟨r, j, m1, m2⟩ <;> rw [k1, m1] at he <;> simp only [Prod.mk.injEq] at he
  all_goals first | (exfalso; omega) | skip
  · have : v = w := by omega
    rw [this]
  · rw [k2, m2]
  · rw [k2, m2]
  · rw [k2, m2, he.2]
    exact handS_len_eq _ _ _ _
end Go.Proofs.YtnfaibenekninaaGreat.L
