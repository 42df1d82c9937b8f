/- PutSection: plain Lean. -/
import Derived.Test.YteiekdolbnkihaaDoorMb1
import Derived.Test.YteiekdolbnkihaaDoorIxS
set_option linter.unusedVariables false
set_option linter.unusedSimpArgs false
namespace Go.Proofs.YteiekdolbnkihaaDoor.L
def posOf (p : Se → Bool) (l : List Se) : Nat := match l.findIdx? p with | some i => i | none => l.length
theorem posOf_le (p : Se → Bool) (l : List Se) : posOf p l ≤ l.length := by
  unfold posOf
  cases h : l.findIdx? p with
  | none => exact Nat.le_refl _
  | some i =>
    rw [List.findIdx?_eq_some_iff_getElem] at h
    exact Nat.le_of_lt h.1
def putP (l : List Se) (id : Int) (body : ByteArray) : List Se :=
  match l.findIdx? (fun x => x.id == id) with
  | some k => l.set k ⟨id, body⟩
  | none => l.take (posOf (fun x => decide (id < x.id)) l) ++ [⟨id, body⟩] ++ l.drop (posOf (fun x => decide (id < x.id)) l)
def putK (l : List Se) (id : Int) : Nat := posOf (fun x => !decide (x.id < id)) l
def putS (l : List Se) (id : Int) (body : ByteArray) : List Se :=
  l.take (putK l id) ++ [⟨id, body⟩] ++ l.drop (if (l[putK l id]?).map Se.id = some id then putK l id + 1 else putK l id)
theorem loopB_lt : ∀ (l : List Se) (u : Int), loopB u l = true → ∀ (k : Nat) (hk : k < l.length), 0 < l[k].id → u < l[k].id
  | [], _, _, k, hk, _ => by simp at hk
  | y :: t, u, h, k, hk, hp => by
    rw [loopB] at h
    by_cases h1 : oneB y = true
    · rw [if_pos h1] at h
      cases k with
      | zero =>
        simp only [List.getElem_cons_zero] at hp ⊢
        rw [if_pos hp] at h
        split at h
        · cases h
        · omega
      | succ k =>
        simp only [List.getElem_cons_succ] at hp ⊢
        simp at hk
        split at h
        · split at h
          · cases h
          · have := loopB_lt t _ h k (by omega) hp
            omega
        · split at h
          · exact loopB_lt t _ h k (by omega) hp
          · cases h
    · rw [if_neg h1] at h; cases h
theorem loopB_inc : ∀ (l : List Se) (u : Int), loopB u l = true → ∀ (j k : Nat) (hj : j < k) (hk : k < l.length), 0 < l[j].id → 0 < l[k].id → l[j].id < l[k].id
  | [], _, _, j, k, _, hk, _, _ => by simp at hk
  | y :: t, u, h, j, k, hjk, hk, hpj, hpk => by
    rw [loopB] at h
    by_cases h1 : oneB y = true
    · rw [if_pos h1] at h
      obtain ⟨k, rfl⟩ : ∃ k', k = k' + 1 := ⟨k - 1, by omega⟩
      simp at hk
      cases j with
      | zero =>
        simp only [List.getElem_cons_zero, List.getElem_cons_succ] at hpj hpk ⊢
        rw [if_pos hpj] at h
        split at h
        · cases h
        · exact loopB_lt t _ h k (by omega) hpk
      | succ j =>
        simp only [List.getElem_cons_succ] at hpj hpk ⊢
        split at h
        · split at h
          · cases h
          · exact loopB_inc t _ h j k (by omega) (by omega) hpj hpk
        · split at h
          · exact loopB_inc t _ h j k (by omega) (by omega) hpj hpk
          · cases h
    · rw [if_neg h1] at h; cases h
theorem put_same {l : List Se} {id : Int} {body : ByteArray} (hg : goodB l = true) (hid : 1 ≤ id) : putP l id body = putS l id body := by
  have hloop : loopB 0 l = true := by unfold goodB at hg; simp at hg; exact hg.2
  unfold putP putS putK
  cases h : l.findIdx? (fun x => x.id == id) with
  | some k =>
    rw [List.findIdx?_eq_some_iff_getElem] at h
    obtain ⟨hk, he, hn⟩ := h
    have he : l[k].id = id := by simpa using he
    have hpos : posOf (fun x => !decide (x.id < id)) l = k := by
      unfold posOf
      have : l.findIdx? (fun x => !decide (x.id < id)) = some k := by
        rw [List.findIdx?_eq_some_iff_getElem]
        refine ⟨hk, by simp [he], fun j hj => ?_⟩
        have h1 : ¬ l[j].id = id := by simpa using hn j hj
        by_cases hp : 0 < l[j].id
        · have := loopB_inc l 0 hloop j k hj hk hp (by omega)
          simp; omega
        · simp; omega
      rw [this]
    rw [hpos, List.getElem?_eq_getElem hk]
    simp only [Option.map_some, he, if_true]
    rw [List.set_eq_take_append_cons_drop, if_pos hk]
    simp
  | none =>
    rw [List.findIdx?_eq_none_iff] at h
    have hpe : posOf (fun x => decide (id < x.id)) l = posOf (fun x => !decide (x.id < id)) l := by
      unfold posOf
      have : l.findIdx? (fun x => decide (id < x.id)) = l.findIdx? (fun x => !decide (x.id < id)) := by
        have hcongr : ∀ m : List Se, (∀ x ∈ m, x ∈ l) → m.findIdx? (fun x => decide (id < x.id)) = m.findIdx? (fun x => !decide (x.id < id)) := by
          intro m hm
          induction m with
          | nil => rfl
          | cons y t ih =>
            have hy : ¬ y.id = id := by simpa using h y (hm y List.mem_cons_self)
            have hb : decide (id < y.id) = !decide (y.id < id) := by rw [Bool.eq_iff_iff]; simp; omega
            rw [List.findIdx?_cons, List.findIdx?_cons, hb, ih (fun x hx => hm x (List.mem_cons_of_mem _ hx))]
        exact hcongr l (fun _ hx => hx)
      rw [this]
    rw [hpe]
    simp only
    rw [if_neg]
    intro hm
    cases hq : l[posOf (fun x => !decide (x.id < id)) l]? with
    | none => rw [hq] at hm; cases hm
    | some y =>
      rw [hq] at hm
      have := h y (List.mem_of_getElem? hq)
      simp at hm this
      exact this hm
def resB (o : List Se) : List Se × Bool := if goodB o then (o, true) else ([], false)
def putB (l : List Se) (id : Int) (body : ByteArray) : List Se × Bool := if goodB l && inB id 1 11 then resB (putP l id body) else ([], false)
theorem mem_putP (l : List Se) (id : Int) (body : ByteArray) : (⟨id, body⟩ : Se) ∈ putP l id body := by
  unfold putP
  cases h : l.findIdx? (fun x => x.id == id) with
  | some k =>
    rw [List.findIdx?_eq_some_iff_getElem] at h
    exact List.mem_set h.1 _
  | none => simp
/-- What the reference reckons. -/
theorem putB_spec (l : List Se) (id : Int) (body : ByteArray) : putB l id body = if (goodB l && inB id 1 11) && decide (body.size ≤ 200) then resB (putS l id body) else ([], false) := by
  unfold putB
  cases hz : (goodB l && inB id 1 11)
  · rfl
  · simp only [Bool.and_eq_true] at hz
    have hid : 1 ≤ id := by have := hz.2; unfold inB at this; simp at this; omega
    by_cases hs : body.size ≤ 200
    · rw [decide_eq_true hs, put_same hz.1 hid]; rfl
    · rw [decide_eq_false hs]
      simp only [Bool.and_false, if_true]
      unfold resB
      rw [if_neg]
      · rfl
      · intro hg
        exact hs ((goodB_all hg).2 _ (mem_putP l id body)).2
theorem putP_len (l : List Se) (id : Int) (body : ByteArray) : (putP l id body).length ≤ l.length + 1 := by
  unfold putP
  split
  · simp
  · simp; omega
theorem putP_sz {l : List Se} {id : Int} {body : ByteArray} (h : ∀ x ∈ l, x.body.size ≤ 1048576) (hb : body.size ≤ 1048576) : ∀ x ∈ putP l id body, x.body.size ≤ 1048576 := by
  intro x hx
  unfold putP at hx
  split at hx
  · rcases List.mem_or_eq_of_mem_set hx with hx | rfl
    · exact h x hx
    · exact hb
  · simp only [List.mem_append, List.mem_singleton] at hx
    rcases hx with (hx | rfl) | hx
    · exact h x (List.mem_of_mem_take hx)
    · exact hb
    · exact h x (List.mem_of_mem_drop hx)
end Go.Proofs.YteiekdolbnkihaaDoor.L
