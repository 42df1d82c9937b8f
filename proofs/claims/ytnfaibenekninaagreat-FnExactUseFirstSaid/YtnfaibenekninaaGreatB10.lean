/- Joined texts, each of which was built by itself: JVw JPl JOp. -/
import Derived.Test.YtnfaibenekninaaGreatB9
import Derived.Test.YtnfaibenekninaaGreatB6
import Derived.Test.YtnfaibenekninaaGreatB7
import Derived.Test.YtnfaibenekninaaGreatB8
import Derived.Test.YtnfaibenekninaaGreatB4
import Derived.Deep.CutRange
import Derived.Test.YtnfaibenekninaaGreatB2
import Derived.Deep.RegionHeld3
import Derived.Test.YtnfaibenekninaaGreatB1
import Derived.ProofKit
import Derived.Test.YtnfaibenekninaaGreatProg
set_option linter.unusedVariables false
set_option linter.unusedSimpArgs false
namespace Go.Proofs.YtnfaibenekninaaGreat.L
open Go.RowKit
theorem Ow.int_own {ap : Bool} {e g n c : Nat} {w : World} {F : Nat → Prop} {l : List Int} (h : Ow ap e Rp.int w F (.slice (some ⟨g, 0, none⟩) n c) l) : Ow true e Rp.int w (fun q => q = g) (.slice (some ⟨g, 0, none⟩) n c) l := by
  obtain ⟨φ, xs, h1, h2, h3, h4, h5⟩ := h
  exact ⟨fun _ _ => False, xs, h1, fun k hk => by simp [Value.ownBlock] at hk; exact hk.symm, fun _ _ h => h.elim, fun _ _ _ _ h => h.elim, fun i x hx => h5 i x hx⟩
theorem Ow.some_form {α : Type} {r : Rp α} {ap : Bool} {e : Nat} {w : World} {F : Nat → Prop} {v : Value} {l : List α} (h : Ow ap e r w F v l) (hl : 0 < l.length) : ∃ g c, v = .slice (some ⟨g, 0, none⟩) l.length c ∧ F g ∧ g < w.heap.size := by
  have hb := h.bound
  obtain ⟨φ, xs, ⟨_, h1⟩, h2, _⟩ := hb
  rcases h1 with ⟨rfl, hn⟩ | ⟨g, cap, cur, rfl, _, _, hc, hm, _⟩
  · omega
  · exact ⟨g, cap, rfl, h2 g (by simp [Value.ownBlock])⟩
theorem cell_new0 {w : World} {cs : Array Value} {t g : Nat} {u : Value} (hg : g = w.heap.size) (hu : cs[0]? = some u) : (w.alloc (.cells cs t)).cell? ⟨g, 0, none⟩ = some u := by
  subst hg
  exact ((cell_of_block (heap_alloc_new w (.cells cs t))).1 0).trans hu
theorem below_al {w w1 : World} {o : Obj} (h : Below w.heap.size w w1) : Below w.heap.size w (w1.alloc o) := h.alloc h.size o
theorem hsz (w : World) (o : Obj) : (w.alloc o).heap.size = w.heap.size + 1 := by simp
theorem Lib_hsd (w : World) : w.drew.heap.size = w.heap.size := rfl
theorem cell_al {w : World} {o : Obj} {a : Addr} {v : Value} (h : w.cell? a = some v) : (w.alloc o).cell? a = some v := cell_below (below_new _) h
theorem cell_dr {w : World} {a : Addr} {v : Value} (h : w.cell? a = some v) : w.drew.cell? a = some v := h
theorem blk_new0 {w : World} {o : Obj} {g : Nat} (hg : g = w.heap.size) : (w.alloc o).heap[g]? = some o := by
  subst hg
  exact heap_alloc_new w o
theorem blk_al {w : World} {o o2 : Obj} {g : Nat} (h : w.heap[g]? = some o) : (w.alloc o2).heap[g]? = some o := blk_below h (below_new _)
theorem blk_dr {w : World} {o : Obj} {g : Nat} (h : w.heap[g]? = some o) : w.drew.heap[g]? = some o := h
theorem ow_zero {w : World} {g N : Nat} (h : w.heap[g]? = some (.cells (madeCells #[.int .i64 0] N) 3 (0, 0))) (hN : N ≤ 1000000000) : Ow true 3 Rp.int w (fun q => q = g) (.slice (some ⟨g, 0, none⟩) N N) (List.replicate N 0) := by
  have := ow_of_ints (l := List.replicate N 0) h (by rw [toList_madeCells_one, List.map_replicate]) (by rw [List.length_replicate]; exact hN)
  rw [List.length_replicate] at this
  exact this
def partsI (s : Sa) : Int → List Pt → List Int → List Int → Option (List Int × List Int)
  | _, [], D, T => some (D, T)
  | k, p :: t, D, T => (partI s k p D T).bind (fun r => partsI s (k + 1) t r.1 r.2)
def nexts (s : Sa) : List (List Int) := s.parts.map (fun p : Pt => p.next)
structure GoodV (s : Sa) (D T : List Int) (M : List (List Bool)) : Prop where
  n1 : 1 ≤ s.parts.length
  n2 : s.parts.length ≤ 11
  v1 : 12 ≤ s.values
  v2 : s.values ≤ 250
  ps : partsI s 0 s.parts (List.replicate s.values.toNat (-1)) (List.replicate s.values.toNat 0) = some (D, T)
  all : ∀ x : Nat, x < s.parts.length → Rch (nexts s) (fun x => x ∉ ([] : List Int)) 0 x
  len : M.length = s.parts.length
  row : ∀ (b : Nat) (hb : b < M.length), M[b].length = s.parts.length
  mt : ∀ b x : Nat, Mt M b x ↔ Dom (nexts s) b x
  us : ∀ (k : Nat) (hk : k < s.parts.length), useB (fun i v => thereI s.values D T M k i v) s.parts[k] = true
theorem flat_le (m : Nat) : ∀ (l : List (List Int)), (∀ a ∈ l, a.length ≤ m) → l.flatten.length ≤ l.length * m
  | [], _ => by simp
  | a :: t, h => by
    have h1 := flat_le m t (fun x hx => h x (List.mem_cons_of_mem _ hx))
    have h2 := h a List.mem_cons_self
    rw [List.flatten_cons, List.length_append, List.length_cons, Nat.add_mul, Nat.one_mul]
    omega
theorem args_len {s : Sa} {p : Pt} (h : staticI s p = true) : p.args.length ≤ 6 := by
  unfold staticI at h
  simp only [Bool.and_eq_true] at h
  have ha := h.2
  have hg := h.1.1.2
  unfold argsS at ha
  split at ha
  · revert ha
    match p.args with
    | [] => intro; simp
    | [_] => intro; simp
    | _ :: _ :: _ => intro ha; cases ha
  · have hl := fitS_len _ _ _ ha
    unfold goB inB at hg
    simp only [Bool.and_eq_true] at hg
    have hg := hg.2
    split at hg
    · simp at hg; omega
    · split at hg
      · simp at hg; omega
      · split at hg
        · simp at hg; omega
        · simp at hg
          have := hg.2
          rw [this] at hl
          simp at hl
          omega
inductive ViewRes (F : Nat → Prop) (s : Sa) (vparts : Value) (w : World) (e : Ending) (w' : World) : Prop where
  | no (he : e = .returned (.pointer none)) (hn : Hid (¬ ∃ D T M, GoodV s D T M)) (hb : Below w.heap.size w w') : ViewRes F s vparts w e w'
  | yes (vb : Nat) (D T : List Int) (M : List (List Bool)) (vn vd vD vT : Value) (he : e = .returned (.pointer (some ⟨vb, 0, none⟩))) (hv : w'.heap[vb]? = some (viewC vparts s.values vn vd vD vT)) (hz : w.heap.size < vb)
      (hD : Ow true 3 Rp.int w' (fun q => w.heap.size ≤ q ∧ q ≠ vb) vD D) (hT : Rp.Rd Rp.int w' (fun q => w.heap.size ≤ q) vT T) (hM : Rp.Rd (Rp.sl Rp.bool) w' (fun q => w.heap.size ≤ q) vd M)
      (hN : Rp.Rd (Rp.sl Rp.int) w' (fun q => F q ∧ q < w.heap.size ∨ w.heap.size ≤ q) vn (nexts s)) (hg : Hid (GoodV s D T M)) (hb : Below w.heap.size w w') : ViewRes F s vparts w e w'
theorem defI_len {V k : Int} : ∀ (l : List (Int × Int)) (D T D' T' : List Int), defI V k D T l = some (D', T') → D'.length = D.length ∧ T'.length = T.length
  | [], D, T, D', T', h => by cases h; exact ⟨rfl, rfl⟩
  | (v, a) :: t, D, T, D', T', h => by
    rw [defI] at h
    split at h
    · have := defI_len t _ _ _ _ h
      simpa using this
    · cases h
theorem defI_lt {V k n : Int} (hk : k < n) : ∀ (l : List (Int × Int)) (D T D' T' : List Int), defI V k D T l = some (D', T') → (∀ x ∈ D, x < n) → ∀ x ∈ D', x < n
  | [], D, T, D', T', h, hx => by cases h; exact hx
  | (v, a) :: t, D, T, D', T', h, hx => by
    rw [defI] at h
    split at h
    · refine defI_lt hk t _ _ _ _ h (fun x hx' => ?_)
      rcases List.mem_or_eq_of_mem_set hx' with h1 | rfl
      · exact hx x h1
      · exact hk
    · cases h
theorem partI_some {s : Sa} {k : Int} {p : Pt} {D T D' T' : List Int} (h : partI s k p D T = some (D', T')) : staticI s p = true ∧ (0 < k ∨ p.params = []) ∧ defI s.values k D T (itemsI p) = some (D', T') := by
  unfold partI at h
  split at h
  · rename_i h1
    simp only [Bool.and_eq_true, Bool.or_eq_true, decide_eq_true_eq, List.isEmpty_iff] at h1
    exact ⟨h1.1, h1.2, h⟩
  · cases h
theorem static_next {s : Sa} {p : Pt} (h : staticI s p = true) : ∀ x ∈ p.next, 0 ≤ x ∧ x < s.parts.length := fun x hx => by
  unfold staticI at h
  simp only [Bool.and_eq_true] at h
  have h2 := h.1.1.2
  unfold goB at h2
  simp only [Bool.and_eq_true, Bool.not_eq_true'] at h2
  have h2 := h2.1.2
  rw [List.any_eq_false] at h2
  have := h2 x hx
  unfold inB at this
  simp at this
  omega
theorem partsI_static {s : Sa} : ∀ (l : List Pt) (k : Int) (D T D' T' : List Int), partsI s k l D T = some (D', T') → ∀ p ∈ l, staticI s p = true
  | [], _, _, _, _, _, _, p, hp => by cases hp
  | q :: t, k, D, T, D', T', h, p, hp => by
    rw [partsI] at h
    obtain ⟨r, h1, h2⟩ := Option.bind_eq_some_iff.1 h
    rcases List.mem_cons.1 hp with rfl | hp
    · exact (partI_some (D' := r.1) (T' := r.2) h1).1
    · exact partsI_static t _ _ _ _ _ h2 p hp
theorem nexts_len (s : Sa) : (nexts s).length = s.parts.length := by unfold nexts; rw [List.length_map]
theorem nexts_inR {s : Sa} (h : ∀ p ∈ s.parts, staticI s p = true) : InR (nexts s) := fun l hl x hx => by
  obtain ⟨p, hp, rfl⟩ := List.mem_map.1 hl
  rw [nexts_len]
  exact static_next (h p hp) x hx
theorem getD_mt (M : List (List Bool)) (b x : Nat) : (M.getD b []).getD x false = true ↔ Mt M b x := by
  unfold Mt
  rw [List.getD_eq_getElem?_getD, List.getD_eq_getElem?_getD]
  cases h : M[b]? with
  | none => simp
  | some r => 
    simp
    cases h2 : r[x]? <;> simp
theorem there_congr {M M' : List (List Bool)} (h : ∀ b x : Nat, Mt M b x ↔ Mt M' b x) (V : Int) (D T : List Int) (pt i k : Int) : thereI V D T M pt i k = thereI V D T M' pt i k := by
  unfold thereI
  have : (M.getD pt.toNat []).getD (D.getD k.toNat 0).toNat false = (M'.getD pt.toNat []).getD (D.getD k.toNat 0).toNat false := by
    rw [Bool.eq_iff_iff, getD_mt, getD_mt]; exact h _ _
  rw [this]
def View0 (F : Nat → Prop) (s : Sa) (vparts : Value) (w : World) (N : Nat) (v : Value) (wx : World) : Prop :=
  ∃ (vb gd cd ga ca : Nat) (vn : Value), v = .pointer (some ⟨vb, 0, none⟩) ∧ wx.heap[vb]? = some (viewC vparts s.values vn (.slice none 0 0) (.slice (some ⟨gd, 0, none⟩) N cd) (.slice (some ⟨ga, 0, none⟩) N ca)) ∧
    gd ≠ ga ∧ vb ≠ gd ∧ vb ≠ ga ∧ w.heap.size < vb ∧ w.heap.size < gd ∧ w.heap.size < ga ∧ Ow true 3 Rp.int wx (fun q => q = gd) (.slice (some ⟨gd, 0, none⟩) N cd) (List.replicate N (-1)) ∧
    Ow true 3 Rp.int wx (fun q => q = ga) (.slice (some ⟨ga, 0, none⟩) N ca) (List.replicate N 0) ∧ Rp.Rd (Rp.sl Rp.int) wx (fun q => (F q ∧ q < w.heap.size) ∨ (w.heap.size < q ∧ q ≠ gd ∧ q ≠ ga ∧ q ≠ vb)) vn (s.parts.map (fun p : Pt => p.next)) ∧ Below w.heap.size w wx
set_option maxRecDepth 100000 in
set_option maxHeartbeats 4000000 in
theorem viewOf_calls {F : Nat → Prop} (s : Sa) (vparts : Value) (w : World) (hs : Rp.Rd part w F vparts s.parts) (hx1 : s.parts.length ≤ 1048576) (hx2 : ∀ p ∈ s.parts, PtLim p) :
    Calls Tryz.prog 25 #[saV s vparts] w (ViewRes F s vparts w) := by
  replace hs := hs.bound
  have HS := hs
  obtain ⟨A, c, rfl, hlc, hcm, hrow⟩ := rd_part hs
  have HCn := fun W (hW : Below w.heap.size w W) => nextsOf_calls s _ W (HS.below hW) hx1
  unfold saV at HCn ⊢
  have HR1 : Hid (inB s.parts.length 1 11 = true ↔ 1 ≤ s.parts.length ∧ s.parts.length ≤ 11) := Lib.hid (by unfold inB; simp; omega)
  have HR2 : Hid (inB s.values 12 250 = true ↔ 12 ≤ s.values ∧ s.values ≤ 250) := Lib.hid (by unfold inB; simp)
  have HC1 := Lib.hid (fun W => within_calls s.parts.length 1 11 W)
  have HC2 := Lib.hid (fun W => within_calls s.values 12 250 W)
  generalize inB s.parts.length 1 11 = r1 at *
  generalize inB s.values 12 250 = r2 at *
  have hB0 : Below w.heap.size w (w.alloc (.cells #[.slice A s.parts.length c, .int .i64 s.values] 28)) := below_new _
  have b0 := heap_alloc_new w (.cells #[.slice A s.parts.length c, .int .i64 s.values] 28)
  have hz0 : w.heap.size < (w.alloc (.cells #[.slice A s.parts.length c, .int .i64 s.values] 28)).heap.size := blk_lt b0
  replace HCn := Lib.hid HCn
  cases r1
  · have HN : Hid (¬ ∃ D T M, GoodV s D T M) := Lib.hid (fun ⟨_, _, _, h⟩ => by cases HR1.out.2 ⟨h.n1, h.n2⟩)
    clear HCn HC2 HR1 HR2
    go_enter Tryz.func25, Tryz.ntmps25
    go_wp2_with (go_at_call 58; refine (HC1.out _).mono ?_; rintro e w' ⟨rfl, rfl⟩)
    go_ret
    exact .no rfl HN hB0
  cases r2
  · have HN : Hid (¬ ∃ D T M, GoodV s D T M) := Lib.hid (fun ⟨_, _, _, h⟩ => by cases HR2.out.2 ⟨h.v1, h.v2⟩)
    clear HCn HR1 HR2
    go_enter Tryz.func25, Tryz.ntmps25
    go_wp2_with fail
    refine (HC1.out _).mono ?_
    rintro e w1 ⟨rfl, rfl⟩
    go_wp2_with fail
    refine (HC2.out _).mono ?_
    rintro e w1 ⟨rfl, rfl⟩
    go_wp2
    go_ret
    exact .no rfl HN hB0
  obtain ⟨hn1, hn2⟩ := HR1.out.1 rfl
  obtain ⟨hv1, hv2⟩ := HR2.out.1 rfl
  clear HR1 HR2
  obtain ⟨N, hN⟩ := Int.eq_ofNat_of_zero_le (by omega : 0 ≤ s.values)
  have hmk := mk_all Tryz.underlying59 infoInt N (by omega) (by omega)
  rw [← hN] at hmk
  replace hN := Lib.hid hN
  go_enter Tryz.func25, Tryz.ntmps25
  go_wp2_with fail
  refine (HC1.out _).mono ?_
  rintro e w1 ⟨rfl, rfl⟩
  go_wp2_with fail
  refine (HC2.out _).mono ?_
  rintro e w1 ⟨rfl, rfl⟩
  generalize w.alloc (.cells #[.slice A s.parts.length c, .int .i64 s.values] 28) = W0 at *
  obtain ⟨x0, _⟩ := cell_of_block b0
  have x00 : W0.cell? ⟨w.heap.size, 0, none⟩ = some (.slice A s.parts.length c) := (x0 0).trans rfl
  have x01 : W0.cell? ⟨w.heap.size, 1, none⟩ = some (.int .i64 s.values) := (x0 1).trans rfl
  have HCr : ∀ gx W (h : W.cell? ⟨gx, 0, none⟩ = some (.int .i64 (-1))), Calls Tryz.prog 60 #[.slice (some ⟨gx, 0, none⟩) 1 1, .int .i64 s.values] W fun e w' => ∃ gd cd, e = .returned (.slice (some ⟨gd, 0, none⟩) N cd) ∧ W.heap.size ≤ gd ∧ gd < w'.heap.size ∧ Ow true 3 Rp.int w' (fun q => q = gd) (.slice (some ⟨gd, 0, none⟩) N cd) (List.replicate N (-1)) ∧ Below W.heap.size W w' := fun gx W h => by
    have h0 := repeat_calls (-1) gx N W h (by have := hN.out; omega) (by have := hN.out; omega)
    rw [← hN.out] at h0
    refine h0.mono ?_
    rintro e w' ⟨v', rfl, hO, hb⟩
    obtain ⟨gd, cd, rfl, h1, h2⟩ := hO.some_form (by rw [List.length_replicate]; have := hN.out; omega)
    rw [List.length_replicate] at hO ⊢
    exact ⟨gd, cd, rfl, h1, h2, hO.int_own, hb⟩
  replace HCr := Lib.hid HCr
  have hmn : Builtin.zeroCells = Builtin.zeroCells := rfl
  go_wp2_with fail
  go_cut [3] from 17 to 28 (fun v wx => View0 F s (.slice A s.parts.length c) w N v wx ∧ wx.heap[w.heap.size]? = some (.cells #[.slice A s.parts.length c, .int .i64 s.values] 28 (0, 0)))
  case first =>
    go_region_held3 (fun w' => w'.cell? ⟨w.heap.size, 0, none⟩ = some (.slice A s.parts.length c) ∧ w'.cell? ⟨w.heap.size, 1, none⟩ = some (.int .i64 s.values))
      (first | go_keep | (go_split_ands; refine ⟨?_, ?_⟩ <;> (repeat (first | assumption | ((with_reducible refine cell_new0 ?_ ?_); (first | with_reducible rfl | exact (hsz _ _).symm | (simp; done) | (simp; omega)); rfl) | with_reducible refine cell_al ?_ | with_reducible refine cell_dr ?_ | refine cell_below (by assumption) ?_))))
      ((first | (go_at_call 59; refine (HCn.out _ (by repeat (first | assumption | with_reducible exact Below.refl _ _ | with_reducible refine below_drew ?_ | with_reducible refine below_drewN ?_ _ | with_reducible refine below_al ?_ | refine below_then ?_ (by assumption)))).mono ?_; rintro e wn ⟨vn, rfl, hvn, hbn⟩; obtain ⟨An, kn, rfl, _⟩ := id hvn) | (go_at_call 60; refine (HCr.out _ _ (by repeat (first | assumption | ((with_reducible refine cell_new0 ?_ ?_); (first | with_reducible rfl | exact (hsz _ _).symm | (simp; done) | (simp; omega)); rfl) | with_reducible refine cell_al ?_ | with_reducible refine cell_dr ?_ | refine cell_below (by assumption) ?_))).mono ?_; rintro e wd ⟨gd, cd, rfl, hgd1, hgd2, hgd, hbd⟩)))
    all_goals
      go_wp2_with fail
      go_meet
    all_goals
      rw [List.length_map] at hvn
      refine ⟨⟨_, gd, cd, _, _, _, rfl, (blk_new0 (by first | with_reducible rfl | exact (hsz _ _).symm | (simp; done) | (simp; omega))).trans rfl, ?_, ?_, ?_, ?_, ?_, ?_, hgd.below (by repeat (first | assumption | with_reducible exact Below.refl _ _ | with_reducible refine below_drew ?_ | with_reducible refine below_drewN ?_ _ | with_reducible refine below_al ?_ | refine below_then ?_ (by assumption))), ow_zero (by repeat (first | assumption | ((with_reducible refine blk_new0 ?_); (first | with_reducible rfl | exact (hsz _ _).symm | (simp; done) | (simp; omega))) | with_reducible refine blk_al ?_ | with_reducible refine blk_dr ?_ | refine blk_below ?_ (by assumption))) (by have := hN.out; omega), (hvn.bound.below (by repeat (first | assumption | with_reducible exact Below.refl _ _ | with_reducible refine below_drew ?_ | with_reducible refine below_drewN ?_ _ | with_reducible refine below_al ?_ | refine below_then ?_ (by assumption)))).mono ?_, by repeat (first | assumption | with_reducible exact Below.refl _ _ | with_reducible refine below_drew ?_ | with_reducible refine below_drewN ?_ _ | with_reducible refine below_al ?_ | refine below_then ?_ (by assumption))⟩, by repeat (first | assumption | ((with_reducible refine blk_new0 ?_); (first | with_reducible rfl | exact (hsz _ _).symm | (simp; done) | (simp; omega))) | with_reducible refine blk_al ?_ | with_reducible refine blk_dr ?_ | refine blk_below ?_ (by assumption))⟩
    all_goals
      have hsn := hbn.size
      have hsd := hbd.size
      simp only [hsz, Lib_hsd] at hsn hsd hgd1 hgd2 ⊢
    all_goals first
      | omega
      | (rintro q ⟨hq | hq, hq2⟩
         · exact .inl hq.1
         · right
           try simp only [hsz, Lib_hsd] at hq hq2
           omega)
  case rest =>
    obtain ⟨⟨vb, gd, cd, ga, ca, vn, rfl, hv, hdt, hvd, hva, hz1, hz2, hz3, hD, hT, hVn, hB⟩, b1⟩ := hcut
    have hFF : ∀ q, F q ∧ q < w.heap.size → q ≠ gd ∧ q ≠ ga := fun q hq => by have := hq.2; omega
    have hFA : ∀ q, F q ∧ q < w.heap.size → ¬ (q = gd ∨ q = ga) := fun q hq => by have := hq.2; omega
    have hPN : ∃ PR, Hid (partsI s 0 s.parts (List.replicate s.values.toNat (-1)) (List.replicate s.values.toNat 0) = PR) := ⟨_, Lib.hid rfl⟩
    obtain ⟨PR, HPR⟩ := hPN
    have hNN := hN.out
    have HNo : Hid (∀ D T, PR = none ∨ (PR = some (D, T) → ¬ ∃ M, GoodV s D T M) → (PR = none ∨ PR = some (D, T)) → ¬ ∃ D T M, GoodV s D T M) := Lib.hid (by
      rintro D T h1 h2 ⟨D', T', M, hg⟩
      have h3 := hg.ps
      rw [HPR.out] at h3
      rcases h2 with h2 | h2
      · rw [h2] at h3; cases h3
      · rw [h2] at h3; cases h3
        rcases h1 with h1 | h1
        · rw [h1] at h2; cases h2
        · exact h1 h2 ⟨M, hg⟩)
    have HJ0 : Hid ((List.replicate N (-1 : Int)).length = N ∧ (List.replicate N (0 : Int)).length = N ∧ (∀ x ∈ List.replicate N (-1 : Int), x < s.parts.length) ∧ partsI s (0 : Nat) (s.parts.drop 0) (List.replicate N (-1)) (List.replicate N 0) = PR) := Lib.hid ⟨List.length_replicate, List.length_replicate, fun x hx => by rw [List.eq_of_mem_replicate hx]; omega, by rw [← HPR.out, hN.out]; rfl⟩
    generalize List.replicate N (-1 : Int) = D0 at *
    generalize List.replicate N (0 : Int) = T0 at *
    obtain ⟨x1, _⟩ := cell_of_block b1
    have x10 : wc.cell? ⟨w.heap.size, 0, none⟩ = some (.slice A s.parts.length c) := (x1 0).trans rfl
    have HB1 := Lib.hid b1
    clear x1 b1 hNN HCn HC1 HC2 HCr hmk hmn x00 x01 x0 hrow
    go_wp2
    go_loopw [32] (fun i wr => ∃ (k : Nat) (D T : List Int), k ≤ s.parts.length ∧ i = .int .i64 k ∧ Ow true 3 Rp.int wr (fun q => q = gd) (.slice (some ⟨gd, 0, none⟩) N cd) D ∧ Ow true 3 Rp.int wr (fun q => q = ga) (.slice (some ⟨ga, 0, none⟩) N ca) T ∧ Chg (fun q => q = gd ∨ q = ga) wc wr ∧ wr.heap[vb]? = some (viewC (.slice A s.parts.length c) s.values vn (.slice none 0 0) (.slice (some ⟨gd, 0, none⟩) N cd) (.slice (some ⟨ga, 0, none⟩) N ca)) ∧ Hid (D.length = N ∧ T.length = N ∧ (∀ x ∈ D, x < s.parts.length) ∧ partsI s k (s.parts.drop k) D T = PR)) (fun i _ => s.parts.length - (intOf i).toNat)
    case atStart => exact ⟨0, D0, T0, Nat.zero_le _, rfl, hD, hT, Chg.refl _ _, hv, HJ0⟩
    case round =>
      clear hD hT hv HJ0 x10
      obtain ⟨k, D, T, hk, rfl, HD, HT, HC, hv, HJ⟩ := hrel
      rename World => wr
      have b1 := HC.blk HB1.out (by omega)
      obtain ⟨x1, _⟩ := cell_of_block b1
      have x10 : wr.cell? ⟨w.heap.size, 0, none⟩ = some (.slice A s.parts.length c) := (x1 0).trans rfl
      clear x1 b1
      by_cases hlt : k < s.parts.length
      · have HSr := ((HS.below hB).move (HC.same hFA))
        have HCp := Lib.hid (partOK_calls s D T k N vb gd cd ga ca _ vn _ wr hv HSr hFF HD HT hdt ⟨hvd, hva⟩ HJ.out.1 HJ.out.2.1 hN.out.symm hv1 hv2 hlt hn2 (hx2 _ (List.getElem_mem hlt)))
        have HX : Hid (partsI s k (s.parts.drop k) D T = (partI s k s.parts[k] D T).bind (fun r => partsI s (k + 1 : Nat) (s.parts.drop (k + 1)) r.1 r.2)) := Lib.hid (by rw [List.drop_eq_getElem_cons hlt]; rfl)
        have i0 : (0 : Int) ≤ (k : Int) := Int.natCast_nonneg _
        have i1 : (k : Int) < (s.parts.length : Int) := by omega
        go_wp2_with fail
        refine HCp.out.mono ?_
        rintro e w1 (⟨rfl, hn, hc⟩ | ⟨D2, T2, rfl, hy, hD2, hT2, hc2⟩)
        · have HN : Hid (¬ ∃ D T M, GoodV s D T M) := Lib.hid (HNo.out D T (.inl (by rw [← HJ.out.2.2.2, HX.out, hn.out]; rfl)) (.inl (by rw [← HJ.out.2.2.2, HX.out, hn.out]; rfl)))
          have hBe := (HC.trans hc).to_below hB hB.size (fun q hq => by omega)
          clear HCp HX hn HJ HNo
          go_wp2
          go_ret
          exact .no rfl HN hBe
        · have HJ2 : Hid (D2.length = N ∧ T2.length = N ∧ (∀ x ∈ D2, x < s.parts.length) ∧ partsI s (k + 1 : Nat) (s.parts.drop (k + 1)) D2 T2 = PR) := Lib.hid ⟨hy.out.2.1, hy.out.2.2, defI_lt i1 _ _ _ _ _ (partI_some hy.out.1).2.2 HJ.out.2.2.1, by rw [← HJ.out.2.2.2, HX.out, hy.out.1]; rfl⟩
          have hv2' := hc2.blk hv (by omega)
          clear HCp HX hy HJ
          go_wp2
          go_roundw
          case rel => exact ⟨k + 1, D2, T2, by omega, by go_num, hD2, hT2, HC.trans hc2, hv2', HJ2⟩
          case measure => simp [intOf]; omega
      · obtain rfl : k = s.parts.length := by omega
        have HPS : Hid (PR = some (D, T)) := Lib.hid (by rw [← HJ.out.2.2.2, List.drop_length]; rfl)
        have HLD : Hid (D.length = N ∧ T.length = N ∧ ∀ x ∈ D, x < s.parts.length) := Lib.hid ⟨HJ.out.1, HJ.out.2.1, HJ.out.2.2.1⟩
        have HST := partsI_static s.parts 0 _ _ D T (HPR.out.trans HPS.out)
        have HIR := nexts_inR HST
        have hVr := hVn.move (HC.same (fun q hq => by rcases hq with hq | hq; have := hq.2; omega; omega))
        have hnl := nexts_len s
        have HCd := Lib.hid (dominators_calls (nexts s) vn wr hVr (by omega) (by omega) HIR)
        obtain ⟨v0, v1, v2, v3, v4, v5⟩ := view_cells hv
        clear HJ hlt hk
        go_wp2_with fail
        refine HCd.out.mono ?_
        rintro e w1 ⟨vM, M, rfl, HM, hbM, HMM⟩
        obtain ⟨AM, kM, rfl, _, _⟩ := HM.form
        have hvw := blk_below hv hbM
        obtain ⟨y1, y2⟩ := cell_of_block hvw
        have y13 := y2 3
        have hvlt := blk_lt hv
        have hbz := hbM.size
        have hBr : Below w.heap.size w wr := HC.to_below hB hB.size (fun q hq => by omega)
        have hB1 : Below w.heap.size w w1 := below_then hBr hbM
        obtain ⟨z0, z1, z2, z3, z4, z5⟩ := view_cells hvw
        clear v0 v1 v2 v3 v4 v5
        go_wp2_with fail
        have hv3 : (w1.setCell ⟨vb, 3, none⟩ (.slice AM M.length kM)).heap[vb]? = some (viewC (.slice A s.parts.length c) s.values vn (.slice AM M.length kM) (.slice (some ⟨gd, 0, none⟩) N cd) (.slice (some ⟨ga, 0, none⟩) N ca)) := blk_put hvw 3 _
        have hB2 : Below w.heap.size w (w1.setCell ⟨vb, 3, none⟩ (.slice AM M.length kM)) := hB1.setCell (by show _ ≤ vb; omega) _
        have hD2 := (HD.below hbM).set_other (b := vb) (o := 3) (u := .slice AM M.length kM) (by omega)
        have hT2 := (HT.below hbM).set_other (b := vb) (o := 3) (u := .slice AM M.length kM) (by omega)
        have hM2 := (((Rp.Le.ow (Rp.Le.refl _)).rd HM.rd) : Rp.Rd (Rp.sl Rp.bool) w1 _ _ M).set_other (b := vb) (o := 3) (u := .slice AM M.length kM) (by omega)
        have hV2 := (hVr.below hbM).set_other (b := vb) (o := 3) (u := .slice AM M.length kM) (by omega)
        have hb1x := blk_set (a := ⟨vb, 3, none⟩) (blk_below (HC.blk HB1.out (by omega)) hbM) (by show w.heap.size ≠ vb; omega) (.slice AM M.length kM)
        generalize w1.setCell ⟨vb, 3, none⟩ (.slice AM M.length kM) = w2 at *
        refine (reach_calls (nexts s) vn (.slice none 0 0) 0 [] w2 hV2 (Rp.Rd.nil Rp.int w2 (fun _ => False)) (by omega) (by omega) (by omega) HIR).mono ?_
        rintro e w3 ⟨vB, B, rfl, HBo, hb3, HRB⟩
        have hB3 : Below w.heap.size w w3 := below_then hB2 hb3
        have HAL : Hid (B.contains false = false ↔ ∀ x : Nat, x < s.parts.length → Rch (nexts s) (fun x => x ∉ ([] : List Int)) 0 x) := Lib.hid (by
          have hh := HRB.out
          constructor
          · intro h x hx
            have hxl : x < B.length := by rw [hh.1, hnl]; exact hx
            have hne : B[x] = true := by
              cases hb : B[x]
              · have h1 : false ∈ B := hb ▸ List.getElem_mem hxl
                have h2 := List.contains_iff_mem.2 h1
                rw [h] at h2; cases h2
              · rfl
            exact (hh.2 x).1 ⟨x, rfl, by rw [List.getElem?_eq_getElem hxl, hne]⟩
          · intro h
            cases hc : B.contains false
            · rfl
            · obtain ⟨x, hx, he⟩ := List.getElem_of_mem (List.contains_iff_mem.1 hc)
              obtain ⟨m, hm, hmt⟩ := (hh.2 x).2 (h x (by rw [← hnl, ← hh.1]; exact hx))
              obtain rfl : x = m := by omega
              rw [List.getElem?_eq_getElem hx, he] at hmt; cases hmt)
        have HCb := Lib.hid (containsBool_calls vB B false w3 HBo.rd)
        have hv4 := blk_below hv3 hb3
        have hD4 := hD2.below hb3
        have hT4 := hT2.below hb3
        have hM4 := hM2.below hb3
        have hV4 := hV2.below hb3
        have hb14 := blk_below hb1x hb3
        clear HBo HRB hV2 hM2 hT2 hD2 hB2 hv3 y1 y2 y13 z0 z1 z2 z3 z4 z5 hvw HCd x10
        have HMR := HMM
        generalize B.contains false = rb at *
        go_wp2_with fail
        refine HCb.out.mono ?_
        rintro e w4 ⟨rfl, rfl⟩
        clear HCb
        cases rb
        rotate_left
        · have HN : Hid (¬ ∃ D T M, GoodV s D T M) := Lib.hid (fun ⟨_, _, _, h⟩ => by cases HAL.out.2 h.all)
          clear HAL HNo
          go_wp2
          go_ret
          exact .no rfl HN hB3
        have HALL : Hid (∀ x : Nat, x < s.parts.length → Rch (nexts s) (fun x => x ∉ ([] : List Int)) 0 x) := Lib.hid (HAL.out.1 rfl)
        clear HAL
        have HSA := Lib.hid HST
        clear HST
        have hbox4 := hb14
        obtain ⟨x1, _⟩ := cell_of_block hbox4
        have x10 : w4.cell? ⟨w.heap.size, 0, none⟩ = some (.slice A s.parts.length c) := (x1 0).trans rfl
        clear x1
        have HU0 : Hid (∀ (j : Nat) (hj : j < s.parts.length), j < 0 → useB (fun i v => thereI s.values D T M j i v) s.parts[j] = true) := Lib.hid (fun j _ h => absurd h (Nat.not_lt_zero _))
        go_wp2
        go_loopw [57] (fun i wr => ∃ k : Nat, k ≤ s.parts.length ∧ i = .int .i64 k ∧ Below w4.heap.size w4 wr ∧ Hid (∀ (j : Nat) (hj : j < s.parts.length), j < k → useB (fun i v => thereI s.values D T M j i v) s.parts[j] = true)) (fun i _ => s.parts.length - (intOf i).toNat)
        case atStart => exact ⟨0, Nat.zero_le _, rfl, Below.refl _ _, HU0⟩
        case round =>
          clear HU0 x10
          obtain ⟨k, hk, rfl, HBk, HK⟩ := hrel
          rename World => ws
          have hBs : Below w.heap.size w ws := below_then hB3 HBk
          have x10 : ws.cell? ⟨w.heap.size, 0, none⟩ = some (.slice A s.parts.length c) := ((cell_of_block (blk_below hbox4 HBk)).1 0).trans rfl
          by_cases hlt : k < s.parts.length
          · have hst := HSA.out _ (List.getElem_mem hlt)
            have hal := args_len hst
            have hlm := hx2 _ (List.getElem_mem hlt)
            have hfl := flat_le 1048576 _ hlm.2.2.2.2
            have HCu := Lib.hid (usesOK_calls s k vb _ vn _ _ _ D T M ws (blk_below hv4 HBk) (HS.below hBs) (hD4.rd.below HBk) (hT4.rd.below HBk) (hM4.below HBk) (by have := HLD.out.1; have := hN.out; omega) (by have := HLD.out.2.1; have := hN.out; omega) hv2 (by rw [HMM.out.1]; omega)
              (fun q hq h0 => by rw [HMM.out.2.1 k (by rw [HMM.out.1]; omega)]; have := HLD.out.2.2 _ (List.getElem_mem hq); omega) hlt hlm (by omega) (by omega))
            clear hal hfl
            have i0 : (0 : Int) ≤ (k : Int) := Int.natCast_nonneg _
            have i1 : (k : Int) < (s.parts.length : Int) := by omega
            generalize hub : useB (fun i v => thereI s.values D T M k i v) s.parts[k] = ub at HCu
            replace hub := Lib.hid hub
            go_wp2_with fail
            refine HCu.out.mono ?_
            rintro e w5 ⟨rfl, hb5⟩
            cases ub
            · have HN : Hid (¬ ∃ D T M, GoodV s D T M) := Lib.hid (HNo.out D T (.inr (fun _ ⟨M', hg⟩ => by
                have h1 := hg.us k hlt
                have h2 : (fun i v => thereI s.values D T M' k i v) = (fun i v => thereI s.values D T M k i v) := by
                  funext i v
                  exact there_congr (fun b x => (hg.mt b x).trans (HMM.out.2.2 b x).symm) _ _ _ _ _ _
                rw [h2, hub.out] at h1
                cases h1)) (.inr HPS.out))
              have hBe := below_then hBs hb5
              clear HCu HNo hub
              go_wp2
              go_ret
              exact .no rfl HN hBe
            · have HK2 : Hid (∀ (j : Nat) (hj : j < s.parts.length), j < k + 1 → useB (fun i v => thereI s.values D T M j i v) s.parts[j] = true) := Lib.hid (fun j hj hjk => by
                rcases Nat.lt_or_ge j k with h | h
                · exact HK.out j hj h
                · obtain rfl : j = k := by omega
                  exact hub.out)
              have hBk2 := below_then HBk hb5
              clear HCu hub HK
              go_wp2
              go_roundw
              case rel => exact ⟨k + 1, by omega, by go_num, hBk2, HK2⟩
              case measure => simp [intOf]; omega
          · obtain rfl : k = s.parts.length := by omega
            have HG : Hid (GoodV s D T M) := Lib.hid ⟨hn1, hn2, hv1, hv2, HPR.out.trans HPS.out, HALL.out, HMM.out.1.trans hnl, fun b hb => (HMM.out.2.1 b hb).trans hnl, HMM.out.2.2, fun j hj => HK.out j hj hj⟩
            have e1 := blk_below hv4 HBk
            have e2 := hD4.below HBk
            have e3 := hT4.rd.below HBk
            have e4 := hM4.below HBk
            have e5 := hV4.below HBk
            clear HK HNo HSA hlt hk
            go_wp2
            go_ret
            exact .yes vb D T M vn _ _ _ rfl e1 hz1 (e2.mono (fun q hq => by omega)) (e3.mono (fun q hq => by omega)) (e4.mono (fun q hq => by have := hBr.size; omega)) (e5.mono (fun q hq => by rcases hq with hq | hq; exact .inl hq; right; omega)) HG hBs
end Go.Proofs.YtnfaibenekninaaGreat.L

set_option linter.unusedVariables false
set_option linter.unusedSimpArgs false
namespace Go.Proofs.YtnfaibenekninaaGreat.L
open Go.RowKit
/-- A Bool that says whether there is a view. -/
inductive GoodResI (s : Sa) (w : World) (e : Ending) (w' : World) : Prop where
  | mk (b : Bool) (he : e = .returned (.bool b)) (hg : Hid (b = true ↔ ∃ D T M, GoodV s D T M)) (hb : Below w.heap.size w w') : GoodResI s w e w'
theorem goodI_calls {F : Nat → Prop} (s : Sa) (vparts : Value) (w : World) (hs : Rp.Rd part w F vparts s.parts) (hx1 : s.parts.length ≤ 1048576) (hx2 : ∀ p ∈ s.parts, PtLim p) :
    Calls Tryz.prog 33 #[saV s vparts] w (GoodResI s w) := by
  obtain ⟨A, c, rfl, _, _, _⟩ := rd_part hs
  have HC := Lib.hid (fun W (hW : Below w.heap.size w W) => viewOf_calls s _ W (hs.below hW) hx1 hx2)
  unfold saV at HC ⊢
  have hB0 : Below w.heap.size w (w.alloc (.cells #[.slice A s.parts.length c, .int .i64 s.values] 28)) := below_new _
  go_enter Tryz.func33, Tryz.ntmps33
  go_wp2_with fail
  refine (HC.out _ hB0).mono ?_
  rintro e w1 (⟨rfl, hn, hb⟩ | ⟨vb, D, T, M, vn, vd, vD, vT, rfl, hv, hz, hD, hT, hM, hN, hg, hb⟩)
  · have HN : Hid (false = true ↔ ∃ D T M, GoodV s D T M) := Lib.hid ⟨fun h => Bool.noConfusion h, fun h => absurd h hn.out⟩
    have hb2 := below_then hB0 hb
    clear hn
    go_wp2
    go_ret
    exact .mk _ rfl HN hb2
  · have HN : Hid (true = true ↔ ∃ D T M, GoodV s D T M) := Lib.hid ⟨fun _ => ⟨D, T, M, hg.out⟩, fun _ => rfl⟩
    have hb2 := below_then hB0 hb
    clear hg
    go_wp2
    go_ret
    exact .mk _ rfl (Lib.hid ⟨fun _ => HN.out.1 trivial, fun _ => rfl⟩) hb2
end Go.Proofs.YtnfaibenekninaaGreat.L

set_option linter.unusedVariables false
set_option linter.unusedSimpArgs false
namespace Go.Proofs.YtnfaibenekninaaGreat.L
theorem step_eq {V : Int} (hV : 12 ≤ V) (x : Fl) : stepS V x = flatB x V := by
  have key : x.op = 1 ∨ x.op = 2 ∨ x.op = 3 ∨ x.op = 4 ∨ x.op = 5 ∨ x.op = 6 ∨ (x.op ≠ 1 ∧ x.op ≠ 2 ∧ x.op ≠ 3 ∧ x.op ≠ 4 ∧ x.op ≠ 5 ∧ x.op ≠ 6) := by omega
  rw [Bool.eq_iff_iff]
  rcases key with h | h | h | h | h | h | ⟨h1, h2, h3, h4, h5, h6⟩
  case inr.inr.inr.inr.inr.inr =>
    simp [stepS, sFlatB, flatB, nameB, fK, fD, fA, fB, fN, fT, inB, *]
    try omega
  all_goals
    simp [stepS, sFlatB, flatB, nameB, fK, fD, fA, fB, fN, fT, inB, h]
    try omega
theorem all_any {α : Type} (l : List α) (f g : α → Bool) (h : ∀ x, f x = g x) : l.all f = !l.any (fun x => !g x) := by
  induction l with
  | nil => rfl
  | cons x t ih => rw [List.all_cons, List.any_cons, ih, h]; cases g x <;> simp
theorem static_iff {s : Sa} (hV : 12 ≤ s.values) {p : Pt} : staticI s p = true ↔ (∀ k ∈ p.next, 0 < k ∧ k < s.parts.length) ∧ partS s p = true := by
  have hc : codeB p.code s.values = (decide (p.code.length ≤ 60) && p.code.all (stepS s.values)) := by
    unfold codeB
    rw [← all_any p.code (stepS s.values) _ (step_eq hV)]
  have hn : (∀ k ∈ p.next, 0 < k ∧ k < s.parts.length) ↔ (p.next.any (fun k => !inB k 0 (s.parts.length - 1)) = false ∧ p.next.contains 0 = false) := by
    rw [List.any_eq_false]
    constructor
    · intro h
      refine ⟨fun k hk => ?_, ?_⟩
      · have := h k hk
        unfold inB; simp; omega
      · cases hc : p.next.contains 0
        · rfl
        · have := h 0 (List.contains_iff_mem.1 hc); omega
    · rintro ⟨h1, h2⟩ k hk
      have h3 := h1 k hk
      have h4 : k ≠ 0 := fun he => by
        rw [he] at hk
        rw [List.contains_iff_mem.2 hk] at h2; cases h2
      unfold inB at h3; simp at h3; omega
  have hx : p.next.all (fun k => decide (0 ≤ k) && decide (k < s.parts.length)) = !p.next.any (fun k => !inB k 0 (s.parts.length - 1)) := all_any _ _ _ (fun k => by
    unfold inB
    rw [Bool.eq_iff_iff]; simp; omega)
  rw [hn]
  unfold staticI partS midS sBlk goB testB
  rw [hc, hx]
  generalize argsS s.parts p = A
  generalize p.code.all (stepS s.values) = C
  generalize p.next.any (fun k => !inB k 0 (s.parts.length - 1)) = X
  generalize p.next.contains 0 = Z
  have he : ∀ n : Nat, (if p.go == 1 then (n : Int) == 1 else if p.go == 2 then (n : Int) == 2 else if p.go == 5 then inB n 2 6 else (p.go == 3 || p.go == 4) && (n : Int) == 0) = sEnd p.go 0 n ([] : List Fl).length := fun n => by
    unfold sEnd
    have key : p.go = 1 ∨ p.go = 2 ∨ p.go = 5 ∨ p.go = 3 ∨ p.go = 4 ∨ (p.go ≠ 1 ∧ p.go ≠ 2 ∧ p.go ≠ 3 ∧ p.go ≠ 4 ∧ p.go ≠ 5) := by omega
    rw [Bool.eq_iff_iff]
    rcases key with h | h | h | h | h | ⟨h1, h2, h3, h4, h5⟩
    case inr.inr.inr.inr.inr =>
      simp [inB, *]
      try omega
    all_goals
      simp [inB, h]
      try omega
  rw [he]
  generalize sEnd p.go 0 p.next.length ([] : List Fl).length = E
  have ht : (!(((p.go == 2 || p.go == 5) && !inB p.test 0 (s.values - 1)) || (!(p.go == 2 || p.go == 5) && p.test != 0))) = !((p.go == 2 || p.go == 5) && !inB p.test 0 (s.values - 1) || p.go != 2 && p.go != 5 && p.test != 0) := by
    cases h1 : p.go == 2 <;> cases h2 : p.go == 5 <;> simp [bne, h1, h2]
  rw [ht]
  generalize (!((p.go == 2 || p.go == 5) && !inB p.test 0 (s.values - 1) || p.go != 2 && p.go != 5 && p.test != 0)) = T
  cases A <;> cases C <;> cases X <;> cases Z <;> cases E <;> cases T <;> simp <;> omega
end Go.Proofs.YtnfaibenekninaaGreat.L

set_option linter.unusedVariables false
set_option linter.unusedSimpArgs false
namespace Go.Proofs.YtnfaibenekninaaGreat.L
theorem getD_set (D : List Int) (m n : Nat) (k : Int) (hm : m < D.length) : (D.set m k).getD n 0 = if n = m then k else D.getD n 0 := by
  rw [List.getD_eq_getElem?_getD, List.getD_eq_getElem?_getD, List.getElem?_set]
  by_cases h : n = m
  · subst h; simp [hm]
  · rw [if_neg h, if_neg (fun h' => h h'.symm)]
theorem defI_spec {V k : Int} (hk : 0 ≤ k) : ∀ (l : List (Int × Int)) (D T D' T' : List Int), (D.length : Int) = V → (T.length : Int) = V → defI V k D T l = some (D', T') →
    (∀ n : Nat, 0 ≤ D.getD n 0 → D'.getD n 0 = D.getD n 0 ∧ T'.getD n 0 = T.getD n 0) ∧
    (∀ x ∈ l, 12 ≤ x.1 ∧ x.1 < V ∧ D'.getD x.1.toNat 0 = k ∧ T'.getD x.1.toNat 0 = x.2) ∧
    (∀ n : Nat, (D'.getD n 0 = D.getD n 0 ∧ T'.getD n 0 = T.getD n 0) ∨ (D'.getD n 0 = k ∧ ((n : Int), T'.getD n 0) ∈ l))
  | [], D, T, D', T', _, _, h => by
    cases h
    exact ⟨fun _ _ => ⟨rfl, rfl⟩, fun _ hx => (by cases hx), fun _ => .inl ⟨rfl, rfl⟩⟩
  | (v, a) :: t, D, T, D', T', hD, hT, h => by
    rw [defI] at h
    split at h
    · rename_i hok
      obtain ⟨h1, h2, h3⟩ := hok
      obtain ⟨m, rfl⟩ := Int.eq_ofNat_of_zero_le (by omega : 0 ≤ v)
      rw [Int.toNat_natCast] at h h3
      have hm : m < D.length := by omega
      have hm2 : m < T.length := by omega
      obtain ⟨i1, i2, i3⟩ := defI_spec hk t (D.set m k) (T.set m a) D' T' (by simpa using hD) (by simpa using hT) h
      have gD := fun n => getD_set D m n k hm
      have gT := fun n => getD_set T m n a hm2
      have hh := i1 m (by rw [gD, if_pos rfl]; exact hk)
      rw [gD, gT, if_pos rfl, if_pos rfl] at hh
      refine ⟨fun n hn => ?_, fun x hx => ?_, fun n => ?_⟩
      · have hne : n ≠ m := fun he => by rw [he] at hn; omega
        have := i1 n (by rw [gD, if_neg hne]; exact hn)
        rw [gD, gT, if_neg hne, if_neg hne] at this
        exact this
      · rcases List.mem_cons.1 hx with rfl | hx
        · exact ⟨h1, h2, by simpa using hh.1, by simpa using hh.2⟩
        · exact i2 x hx
      · by_cases hne : n = m
        · subst hne
          right
          rw [hh.1, hh.2]
          exact ⟨rfl, List.mem_cons_self⟩
        · rcases i3 n with h4 | h4
          · rw [gD, gT, if_neg hne, if_neg hne] at h4
            exact .inl h4
          · exact .inr ⟨h4.1, List.mem_cons_of_mem _ h4.2⟩
    · cases h
theorem partsI_spec {s : Sa} : ∀ (l : List Pt) (k : Int) (D T D' T' : List Int), 0 ≤ k → (D.length : Int) = s.values → (T.length : Int) = s.values → partsI s k l D T = some (D', T') →
    (D'.length = D.length ∧ T'.length = T.length) ∧
    (∀ n : Nat, 0 ≤ D.getD n 0 → D'.getD n 0 = D.getD n 0 ∧ T'.getD n 0 = T.getD n 0) ∧
    (∀ (q : Nat) (p : Pt), l[q]? = some p → ∀ x ∈ itemsI p, 12 ≤ x.1 ∧ x.1 < s.values ∧ D'.getD x.1.toNat 0 = k + q ∧ T'.getD x.1.toNat 0 = x.2) ∧
    (∀ n : Nat, (D'.getD n 0 = D.getD n 0 ∧ T'.getD n 0 = T.getD n 0) ∨ ∃ (q : Nat) (p : Pt), l[q]? = some p ∧ D'.getD n 0 = k + q ∧ ((n : Int), T'.getD n 0) ∈ itemsI p)
  | [], k, D, T, D', T', _, _, _, h => by
    cases h
    exact ⟨⟨rfl, rfl⟩, fun _ _ => ⟨rfl, rfl⟩, fun _ _ hx => by simp at hx, fun _ => .inl ⟨rfl, rfl⟩⟩
  | p :: t, k, D, T, D', T', hk, hD, hT, h => by
    rw [partsI] at h
    obtain ⟨⟨D1, T1⟩, h1, h2⟩ := Option.bind_eq_some_iff.1 h
    have hd := (partI_some h1).2.2
    have hl := defI_len _ _ _ _ _ hd
    obtain ⟨a1, a2, a3⟩ := defI_spec hk _ _ _ _ _ hD hT hd
    obtain ⟨b0, b1, b2, b3⟩ := partsI_spec t (k + 1) D1 T1 D' T' (by omega) (by rw [hl.1]; exact hD) (by rw [hl.2]; exact hT) h2
    refine ⟨⟨b0.1.trans hl.1, b0.2.trans hl.2⟩, fun n hn => ?_, fun q p' hq x hx => ?_, fun n => ?_⟩
    · have c1 := a1 n hn
      have c2 := b1 n (by rw [c1.1]; exact hn)
      exact ⟨c2.1.trans c1.1, c2.2.trans c1.2⟩
    · cases q with
      | zero =>
        simp only [List.getElem?_cons_zero, Option.some.injEq] at hq
        subst hq
        obtain ⟨c1, c2, c3, c4⟩ := a2 x hx
        have c5 := b1 x.1.toNat (by rw [c3]; exact hk)
        exact ⟨c1, c2, by rw [c5.1, c3]; simp, by rw [c5.2, c4]⟩
      | succ q =>
        rw [List.getElem?_cons_succ] at hq
        obtain ⟨c1, c2, c3, c4⟩ := b2 q p' hq x hx
        exact ⟨c1, c2, by rw [c3]; omega, c4⟩
    · rcases b3 n with c | ⟨q, p', hq, c1, c2⟩
      · rcases a3 n with d | ⟨d1, d2⟩
        · exact .inl ⟨c.1.trans d.1, c.2.trans d.2⟩
        · exact .inr ⟨0, p, rfl, by rw [c.1, d1]; simp, by rw [c.2]; exact d2⟩
      · exact .inr ⟨q + 1, p', by rw [List.getElem?_cons_succ]; exact hq, by rw [c1]; omega, c2⟩
/-- The reference's row beside the program's. -/
structure Rel (V : Int) (S D : List Int) : Prop where
  l1 : (S.length : Int) = V
  l2 : (D.length : Int) = V
  lo : ∀ n : Nat, n < 12 → S.getD n 0 = 0
  hi : ∀ n : Nat, 12 ≤ n → S.getD n 0 = D.getD n 0
theorem Rel.set {V k : Int} {S D : List Int} (h : Rel V S D) {m : Nat} (h12 : 12 ≤ m) (hm : (m : Int) < V) : Rel V (S.set m k) (D.set m k) := by
  have h1 := h.l1
  have h2 := h.l2
  refine ⟨by simpa using h1, by simpa using h2, fun n hn => ?_, fun n hn => ?_⟩
  · rw [getD_set _ _ _ _ (by omega), if_neg (by omega)]; exact h.lo n hn
  · rw [getD_set _ _ _ _ (by omega), getD_set _ _ _ _ (by omega), h.hi n hn]
theorem getD_bang (S : List Int) (m : Nat) (h : m < S.length) : S[m]! = S.getD m 0 := by
  rw [List.getD_eq_getElem?_getD, List.getElem?_eq_getElem h, getElem!_pos S m h]; rfl
theorem ok_iff {V v : Int} {S D : List Int} (h : Rel V S D) (hV : 12 ≤ V) : okD V v D ↔ ¬ (v < 0 ∨ (S.length : Int) ≤ v ∨ 0 ≤ S[v.toNat]!) := by
  have h1 := h.l1
  unfold okD
  constructor
  · rintro ⟨a, b, c⟩ hn
    obtain ⟨m, rfl⟩ := Int.eq_ofNat_of_zero_le (by omega : 0 ≤ v)
    rw [Int.toNat_natCast] at c hn
    rw [getD_bang S m (by omega), h.hi m (by omega)] at hn
    omega
  · intro hn
    have h2 : 0 ≤ v ∧ v < S.length := by omega
    obtain ⟨m, rfl⟩ := Int.eq_ofNat_of_zero_le h2.1
    rw [Int.toNat_natCast, getD_bang S m (by omega)] at hn
    rw [Int.toNat_natCast]
    have h3 : 12 ≤ m := by
      rcases Nat.lt_or_ge m 12 with h4 | h4
      · have := h.lo m h4; omega
      · exact h4
    rw [h.hi m h3] at hn
    omega
theorem sim_def {V k : Int} (hV : 12 ≤ V) : ∀ (l : List (Int × Int)) (S D T : List Int), Rel V S D →
    (∀ S', defStep k S (l.map Prod.fst) = some S' → ∃ D' T', defI V k D T l = some (D', T') ∧ Rel V S' D') ∧ (∀ D' T', defI V k D T l = some (D', T') → ∃ S', defStep k S (l.map Prod.fst) = some S' ∧ Rel V S' D')
  | [], S, D, T, h => ⟨fun S' h' => by cases h'; exact ⟨D, T, rfl, h⟩, fun D' T' h' => by cases h'; exact ⟨S, rfl, h⟩⟩
  | (v, a) :: t, S, D, T, h => by
    rw [List.map_cons, defStep, defI]
    by_cases hok : okD V v D
    · rw [if_pos hok, if_neg ((ok_iff h hV).1 hok)]
      have h12 := hok.1
      have hm := hok.2.1
      exact sim_def hV t _ _ _ (h.set (by omega) (by omega))
    · rw [if_neg hok, if_pos (by have := mt (ok_iff h hV).2 hok; exact Classical.not_not.1 this)]
      exact ⟨fun _ h' => (by cases h'), fun _ _ h' => (by cases h')⟩
theorem fD_sets (x : Fl) : fD x.op = setsS x := by
  unfold fD setsS inB
  rw [Bool.eq_iff_iff]; simp; omega
theorem codeItems_fst : ∀ (l : List Fl) (i : Int), (codeItems i l).map Prod.fst = dstsS l
  | [], _ => rfl
  | x :: t, i => by
    have ih := codeItems_fst t (i + 1)
    unfold dstsS at ih ⊢
    rw [codeItems, fD_sets]
    cases h : setsS x <;> simp [h, ih]
theorem items_fst (p : Pt) : (itemsI p).map Prod.fst = ownS p := by
  unfold itemsI ownS parItems
  rw [List.map_append, codeItems_fst, List.map_map]
  congr 1
  exact List.map_id' _
theorem sim_parts {s : Sa} (hV : 12 ≤ s.values) : ∀ (l : List Pt) (k : Int) (S D T : List Int), 0 ≤ k → Rel s.values S D →
    (∀ D' T', partsI s k l D T = some (D', T') → (∀ p ∈ l, staticI s p = true) ∧ (∀ p, l[0]? = some p → 0 < k ∨ p.params = []) ∧ ∃ S', defsFrom k S l = some S' ∧ Rel s.values S' D') ∧
    (∀ S', (∀ p ∈ l, staticI s p = true) → (∀ p, l[0]? = some p → 0 < k ∨ p.params = []) → defsFrom k S l = some S' → ∃ D' T', partsI s k l D T = some (D', T') ∧ Rel s.values S' D')
  | [], k, S, D, T, hk, h => ⟨fun D' T' h' => by cases h'; exact ⟨fun _ h => (by cases h), fun _ h => (by simp at h), S, rfl, h⟩, fun S' _ _ h' => by cases h'; exact ⟨D, T, rfl, h⟩⟩
  | p :: t, k, S, D, T, hk, h => by
    constructor
    · intro D' T' h'
      rw [partsI] at h'
      obtain ⟨⟨D1, T1⟩, h1, h2⟩ := Option.bind_eq_some_iff.1 h'
      obtain ⟨e1, e2, e3⟩ := partI_some h1
      obtain ⟨S1, f1, f2⟩ := (sim_def hV _ S D T h).2 D1 T1 e3
      obtain ⟨g1, g2, S', g3, g4⟩ := (sim_parts hV t (k + 1) S1 D1 T1 (by omega) f2).1 D' T' h2
      refine ⟨fun q hq => ?_, fun q hq => ?_, S', ?_, g4⟩
      · rcases List.mem_cons.1 hq with rfl | hq
        · exact e1
        · exact g1 q hq
      · simp only [List.getElem?_cons_zero, Option.some.injEq] at hq
        subst hq; exact e2
      · rw [defsFrom, ← items_fst, f1]; exact g3
    · intro S' h1 h2 h'
      rw [defsFrom, ← items_fst] at h'
      obtain ⟨S1, f1, f2⟩ := Option.bind_eq_some_iff.1 h'
      obtain ⟨D1, T1, e1, e2⟩ := (sim_def hV _ S D T h).1 S1 f1
      obtain ⟨D', T', g1, g2⟩ := (sim_parts hV t (k + 1) S1 D1 T1 (by omega) e2).2 S' (fun q hq => h1 q (List.mem_cons_of_mem _ hq)) (fun q _ => .inl (by omega)) f2
      refine ⟨D', T', ?_, g2⟩
      have hp : partI s k p D T = some (D1, T1) := by
        unfold partI
        have h3 := h2 p rfl
        rw [h1 p List.mem_cons_self]
        have h4 : (decide (0 < k) || p.params.isEmpty) = true := by
          simpa [List.isEmpty_iff] using h3
        rw [h4]
        exact e1
      rw [partsI, hp]
      exact g1
end Go.Proofs.YtnfaibenekninaaGreat.L

set_option linter.unusedVariables false
set_option linter.unusedSimpArgs false
namespace Go.Proofs.YtnfaibenekninaaGreat.L
theorem rch_congr {n1 n2 : List (List Int)} {ok : Int → Prop} {f k : Int} (h : ∀ (i : Nat) (l : List Int), n1[i]? = some l → ∃ l', n2[i]? = some l' ∧ ∀ x ∈ l, x ∈ l') (hr : Rch n1 ok f k) : Rch n2 ok f k := by
  induction hr with
  | start h => exact .start h
  | step _ h1 h2 h3 h4 ih =>
    obtain ⟨l', h5, h6⟩ := h _ _ h2
    exact .step ih h1 h5 (h6 _ h3) h4
theorem rch_graph {s : Sa} {ok : Int → Prop} {f k : Int} : Rch (graphS s.parts) ok f k ↔ Rch (nexts s) ok f k := by
  unfold graphS nexts
  constructor
  · refine rch_congr (fun i l hl => ?_)
    rw [List.getElem?_map] at hl ⊢
    obtain ⟨p, hp, rfl⟩ := Option.map_eq_some_iff.1 hl
    exact ⟨p.next, by rw [hp]; rfl, fun x hx => nxS_mem.1 hx⟩
  · refine rch_congr (fun i l hl => ?_)
    rw [List.getElem?_map] at hl ⊢
    obtain ⟨p, hp, rfl⟩ := Option.map_eq_some_iff.1 hl
    exact ⟨_, by rw [hp]; rfl, fun x hx => nxS_mem.2 hx⟩
theorem dom_graph {s : Sa} {k d : Int} : Dom (graphS s.parts) k d ↔ Dom (nexts s) k d := by
  unfold Dom
  rw [rch_graph, rch_graph, rch_graph]
theorem mem_codeItems {v a : Int} : ∀ (l : List Fl) (i : Int), (v, a) ∈ codeItems i l ↔ ∃ (j : Nat) (x : Fl), l[j]? = some x ∧ setsS x = true ∧ x.dst = v ∧ a = i + j
  | [], i => by simp [codeItems]
  | y :: t, i => by
    have ih := mem_codeItems (v := v) (a := a) t (i + 1)
    rw [codeItems, fD_sets]
    constructor
    · intro h
      split at h
      · rename_i hy
        rcases List.mem_cons.1 h with h | h
        · cases h
          exact ⟨0, y, rfl, hy, rfl, by simp⟩
        · obtain ⟨j, x, h1, h2, h3, h4⟩ := ih.1 h
          exact ⟨j + 1, x, by rw [List.getElem?_cons_succ]; exact h1, h2, h3, by omega⟩
      · obtain ⟨j, x, h1, h2, h3, h4⟩ := ih.1 h
        exact ⟨j + 1, x, by rw [List.getElem?_cons_succ]; exact h1, h2, h3, by omega⟩
    · rintro ⟨j, x, h1, h2, h3, h4⟩
      cases j with
      | zero =>
        simp only [List.getElem?_cons_zero, Option.some.injEq] at h1
        subst h1
        rw [if_pos h2]
        have : (v, a) = (y.dst, i) := by rw [h3, h4]; simp
        rw [this]
        exact List.mem_cons_self
      | succ j =>
        rw [List.getElem?_cons_succ] at h1
        have := ih.2 ⟨j, x, h1, h2, h3, by omega⟩
        split
        · exact List.mem_cons_of_mem _ this
        · exact this
theorem mem_dsts {v : Int} {l : List Fl} : v ∈ dstsS l ↔ ∃ (j : Nat) (x : Fl), l[j]? = some x ∧ setsS x = true ∧ x.dst = v := by
  unfold dstsS
  rw [List.mem_map]
  constructor
  · rintro ⟨x, hx, rfl⟩
    obtain ⟨h1, h2⟩ := List.mem_filter.1 hx
    obtain ⟨j, hj⟩ := List.getElem?_of_mem h1
    exact ⟨j, x, hj, h2, rfl⟩
  · rintro ⟨j, x, h1, h2, rfl⟩
    exact ⟨x, List.mem_filter.2 ⟨List.mem_of_getElem? h1, h2⟩, rfl⟩
theorem mem_far {v : Int} {p : Pt} {i : Nat} : v ∈ p.params ++ dstsS (p.code.take i) ↔ ∃ a, a < (i : Int) ∧ (v, a) ∈ itemsI p := by
  unfold itemsI parItems
  constructor
  · intro h
    rcases List.mem_append.1 h with h | h
    · exact ⟨-1, by omega, List.mem_append.2 (.inl (List.mem_map.2 ⟨v, h, rfl⟩))⟩
    · obtain ⟨j, x, h1, h2, h3⟩ := mem_dsts.1 h
      rw [List.getElem?_take] at h1
      split at h1
      · exact ⟨j, by omega, List.mem_append.2 (.inr ((mem_codeItems _ _).2 ⟨j, x, h1, h2, h3, by omega⟩))⟩
      · cases h1
  · rintro ⟨a, ha, h⟩
    rcases List.mem_append.1 h with h | h
    · obtain ⟨y, hy, he⟩ := List.mem_map.1 h
      cases he
      exact List.mem_append.2 (.inl hy)
    · obtain ⟨j, x, h1, h2, h3, h4⟩ := (mem_codeItems _ _).1 h
      exact List.mem_append.2 (.inr (mem_dsts.2 ⟨j, x, by rw [List.getElem?_take, if_pos (by omega)]; exact h1, h2, h3⟩))
theorem there_iff {s : Sa} {S D T : List Int} {M : List (List Bool)} (hV : 12 ≤ s.values) (hR : Rel s.values S D) (hP : partsI s 0 s.parts (List.replicate s.values.toNat (-1)) (List.replicate s.values.toNat 0) = some (D, T))
    (hM : ∀ b x : Nat, Mt M b x ↔ Dom (nexts s) b x) {k : Nat} {p : Pt} (hk : s.parts[k]? = some p) (i : Nat) (v : Int) :
    thereI s.values D T M k i v = true ↔ ThereP (graphS s.parts) S (p.params ++ dstsS (p.code.take i)) k v := by
  have hl1 : ((List.replicate s.values.toNat (-1 : Int)).length : Int) = s.values := by rw [List.length_replicate]; omega
  have hl2 : ((List.replicate s.values.toNat (0 : Int)).length : Int) = s.values := by rw [List.length_replicate]; omega
  obtain ⟨⟨a1, a2⟩, -, a3, a4⟩ := partsI_spec s.parts 0 _ _ D T (by omega) hl1 hl2 hP
  have hS := hR.l1
  unfold ThereP
  by_cases hv : 0 ≤ v ∧ v < s.values
  rotate_left
  · have h1 : thereI s.values D T M k i v = false := by
      unfold thereI inB
      have : (decide (0 ≤ v) && decide (v ≤ s.values - 1)) = false := by simp; omega
      rw [this]; rfl
    rw [h1]
    constructor
    · intro h; cases h
    · rintro ⟨h2, h3, _⟩; omega
  obtain ⟨n, rfl⟩ := Int.eq_ofNat_of_zero_le hv.1
  have hin : inB (n : Int) 0 (s.values - 1) = true := by unfold inB; simp; omega
  by_cases h12 : n < 12
  · have h1 : thereI s.values D T M k i n = true := by
      unfold thereI
      rw [hin, decide_eq_true (by omega : (n : Int) < 12)]; rfl
    rw [h1]
    exact ⟨fun _ => ⟨by omega, by omega, .inl (by omega)⟩, fun _ => rfl⟩
  have hd : S[n]! = D.getD n 0 := by rw [getD_bang S n (by omega), hR.hi n (by omega)]
  have hb4 := a4 n
  have hr : (List.replicate s.values.toNat (-1 : Int)).getD n 0 = -1 := by
    rw [List.getD_eq_getElem?_getD, List.getElem?_replicate, if_pos (by omega)]; rfl
  rw [hr] at hb4
  have h1 : thereI s.values D T M k i n = (if D.getD n 0 == (k : Int) then decide (T.getD n 0 < i) else decide (0 ≤ D.getD n 0) && (M.getD k []).getD (D.getD n 0).toNat false) := by
    unfold thereI
    rw [hin, decide_eq_false (by omega), Int.toNat_natCast, Int.toNat_natCast]; rfl
  rw [h1, Int.toNat_natCast, hd, mem_far]
  have hfar : ∀ a, ((n : Int), a) ∈ itemsI p → D.getD n 0 = k ∧ T.getD n 0 = a := fun a ha => by
    obtain ⟨-, -, h3, h4⟩ := a3 k p hk _ ha
    rw [Int.toNat_natCast] at h3 h4
    exact ⟨by rw [h3]; simp, h4⟩
  by_cases hdk : D.getD n 0 = (k : Int)
  · rw [if_pos (by rw [hdk]; simp), decide_eq_true_eq]
    constructor
    · intro ht
      refine ⟨by omega, by omega, .inr (.inl ⟨_, ht, ?_⟩)⟩
      rcases hb4 with h | ⟨q, p', hq, h2, h3⟩
      · omega
      · obtain rfl : q = k := by omega
        rw [hk] at hq; cases hq; exact h3
    · rintro ⟨-, -, h | ⟨a, ha, hm⟩ | h⟩
      · omega
      · rw [(hfar a hm).2]; exact ha
      · exact absurd hdk h.2.1
  · rw [if_neg (by simpa using hdk), Bool.and_eq_true, decide_eq_true_eq, getD_mt, hM]
    constructor
    · rintro ⟨h2, h3⟩
      refine ⟨by omega, by omega, .inr (.inr ⟨h2, hdk, dom_graph.2 ?_⟩)⟩
      rw [Int.toNat_of_nonneg h2] at h3
      exact h3
    · rintro ⟨-, -, h | ⟨a, ha, hm⟩ | ⟨h2, -, h3⟩⟩
      · omega
      · exact absurd (hfar a hm).1 hdk
      · refine ⟨h2, ?_⟩
        rw [Int.toNat_of_nonneg h2]
        exact dom_graph.1 h3
end Go.Proofs.YtnfaibenekninaaGreat.L

set_option linter.unusedVariables false
set_option linter.unusedSimpArgs false
namespace Go.Proofs.YtnfaibenekninaaGreat.L
theorem flat_op {x : Fl} {V : Int} (h : flatB x V = true) : 1 ≤ x.op ∧ x.op ≤ 6 := by
  unfold flatB fK at h
  simp only [Bool.and_eq_true] at h
  have := h.1.1.1.1.1
  simp at this
  omega
theorem uses_eq {x : Fl} (h : 1 ≤ x.op ∧ x.op ≤ 6) : usesI x = usesS x := by
  have key : x.op = 1 ∨ x.op = 2 ∨ x.op = 3 ∨ x.op = 4 ∨ x.op = 5 ∨ x.op = 6 := by omega
  unfold usesI usesS fA fB
  rcases key with h | h | h | h | h | h <;> simp [h]
theorem codeU_iff {f : Int → Int → Bool} : ∀ (l : List Fl) (i : Int), codeU f i l = true ↔ ∀ (j : Nat) (x : Fl), l[j]? = some x → ∀ v ∈ usesI x, f (i + j) v = true
  | [], i => by simp [codeU]
  | y :: t, i => by
    rw [codeU, Bool.and_eq_true, codeU_iff t (i + 1), List.all_eq_true]
    constructor
    · rintro ⟨h1, h2⟩ j x hj v hv
      cases j with
      | zero =>
        simp only [List.getElem?_cons_zero, Option.some.injEq] at hj
        subst hj
        have := h1 v hv
        simpa using this
      | succ j =>
        rw [List.getElem?_cons_succ] at hj
        have := h2 j x hj v hv
        rw [show i + ((j + 1 : Nat) : Int) = i + 1 + j by omega]
        exact this
    · intro h
      refine ⟨fun v hv => ?_, fun j x hj v hv => ?_⟩
      · have := h 0 y rfl v hv
        simpa using this
      · have := h (j + 1) x (by rw [List.getElem?_cons_succ]; exact hj) v hv
        rw [show i + 1 + (j : Int) = i + ((j + 1 : Nat) : Int) by omega]
        exact this
theorem static_flat {s : Sa} {p : Pt} (h : staticI s p = true) : ∀ x ∈ p.code, flatB x s.values = true := fun x hx => by
  unfold staticI codeB at h
  simp only [Bool.and_eq_true, Bool.not_eq_true'] at h
  have h2 := h.1.1.1.2
  rw [List.any_eq_false] at h2
  have := h2 x hx
  simpa using this
theorem use_iff {s : Sa} {S D T : List Int} {M : List (List Bool)} (hV : 12 ≤ s.values) (hR : Rel s.values S D) (hP : partsI s 0 s.parts (List.replicate s.values.toNat (-1)) (List.replicate s.values.toNat 0) = some (D, T))
    (hM : ∀ b x : Nat, Mt M b x ↔ Dom (nexts s) b x) {k : Nat} {p : Pt} (hk : s.parts[k]? = some p) :
    useB (fun i v => thereI s.values D T M k i v) p = true ↔ (∀ (i : Nat) (x : Fl), p.code[i]? = some x → ∀ v ∈ usesS x, ThereP (graphS s.parts) S (p.params ++ dstsS (p.code.take i)) k v) ∧ ∀ v ∈ endsS p, ThereP (graphS s.parts) S (ownS p) k v := by
  have hst := partsI_static _ _ _ _ _ _ hP p (List.mem_of_getElem? hk)
  have hth := fun i v => there_iff hV hR hP hM hk i v
  have hend : ∀ v, thereI s.values D T M k p.code.length v = true ↔ ThereP (graphS s.parts) S (ownS p) k v := fun v => by
    rw [hth, List.take_length]; rfl
  unfold useB
  simp only [Bool.and_eq_true, and_assoc]
  rw [codeU_iff]
  constructor
  · rintro ⟨h1, h2, h3⟩
    refine ⟨fun i x hx v hv => ?_, fun v hv => ?_⟩
    · have := h1 i x hx v (by rw [uses_eq (flat_op (static_flat hst x (List.mem_of_getElem? hx)))]; exact hv)
      rw [Int.zero_add, hth] at this
      exact this
    · rw [← hend]
      unfold endsS at hv
      rcases List.mem_append.1 hv with hv | hv
      · split at hv
        · rename_i ht
          rw [List.mem_singleton.1 hv]
          have ht : testB p.go = true := ht
          rw [ht] at h2
          simpa using h2
        · cases hv
      · exact (List.all_eq_true.1 h3) v hv
  · rintro ⟨h1, h2⟩
    refine ⟨fun i x hx v hv => ?_, ?_, ?_⟩
    · rw [uses_eq (flat_op (static_flat hst x (List.mem_of_getElem? hx)))] at hv
      rw [Int.zero_add, hth]
      exact h1 i x hx v hv
    · cases ht : testB p.go
      · rfl
      · have := (hend p.test).2 (h2 _ (by
          unfold endsS
          have ht : (p.go == 2 || p.go == 5) = true := ht
          rw [if_pos ht]
          exact List.mem_append.2 (.inl (List.mem_singleton.2 rfl))))
        rw [this]; rfl
    · rw [List.all_eq_true]
      intro v hv
      rw [hend]
      exact h2 v (List.mem_append.2 (.inr hv))
theorem rel0 {V : Int} (hV : 12 ≤ V) : Rel V (defs0 V.toNat) (List.replicate V.toNat (-1)) := by
  have hg : ∀ n : Nat, n < V.toNat → (defs0 V.toNat).getD n 0 = if n < 12 then 0 else -1 := fun n hn => by
    unfold defs0
    rw [List.getD_eq_getElem?_getD, List.getElem?_map, List.getElem?_range hn]; rfl
  refine ⟨by rw [defs0_len]; omega, by rw [List.length_replicate]; omega, fun n hn => ?_, fun n hn => ?_⟩
  · rw [hg n (by omega), if_pos hn]
  · by_cases h : n < V.toNat
    · rw [hg n h, if_neg (by omega), List.getD_eq_getElem?_getD, List.getElem?_replicate, if_pos h]; rfl
    · rw [List.getD_eq_getElem?_getD, List.getD_eq_getElem?_getD, List.getElem?_eq_none (by rw [defs0_len]; omega), List.getElem?_eq_none (by rw [List.length_replicate]; omega)]
theorem good_iff (s : Sa) : (∃ D T M, GoodV s D T M) ↔ GoodP s := by
  constructor
  · rintro ⟨D, T, M, h⟩
    obtain ⟨h1, h2, S, h3, h4⟩ := (sim_parts h.v1 s.parts 0 _ _ (List.replicate s.values.toNat 0) (by omega) (rel0 h.v1)).1 D T h.ps
    have hd : defsS s = some S := h3
    have hnx : ∀ p ∈ s.parts, ∀ k ∈ p.next, 0 < k ∧ k < s.parts.length := fun p hp => ((static_iff h.v1).1 (h1 p hp)).1
    have hir : InR (nexts s) := nexts_inR h1
    refine ⟨h.n1, h.n2, h.v1, h.v2, hnx, fun p hp => ((static_iff h.v1).1 (h1 p hp)).2, by rw [hd]; rfl, fun p hp => ?_, fun k p hk => ?_⟩
    · rcases h2 p hp with h5 | h5
      · omega
      · exact h5
    · have hkl : k < s.parts.length := (List.getElem?_eq_some_iff.1 hk).1
      have hu := h.us k hkl
      rw [(List.getElem?_eq_some_iff.1 hk).2] at hu
      obtain ⟨u1, u2⟩ := (use_iff h.v1 h4 h.ps h.mt hk).1 hu
      rw [hd]
      exact ⟨rch_graph.2 ((rch_all hir (by rw [nexts_len]; exact h.n1)).1 (h.all k hkl)), u1, u2⟩
  · intro h
    obtain ⟨S, hd⟩ := Option.isSome_iff_exists.1 h.defs
    have hst : ∀ p ∈ s.parts, staticI s p = true := fun p hp => (static_iff h.v1).2 ⟨h.nx p hp, h.pt p hp⟩
    obtain ⟨D, T, h3, h4⟩ := (sim_parts h.v1 s.parts 0 _ _ (List.replicate s.values.toNat 0) (by omega) (rel0 h.v1)).2 S hst (fun p hp => .inr (h.par p hp)) hd
    have hir : InR (nexts s) := nexts_inR hst
    have hn0 : 0 < (nexts s).length := by rw [nexts_len]; exact h.n1
    refine ⟨D, T, (List.range s.parts.length).map (fun b => (List.range s.parts.length).map (fun x => @decide (Dom (nexts s) (b : Nat) (x : Nat)) (Classical.propDecidable _))), ?_⟩
    have hmt : ∀ b x : Nat, Mt ((List.range s.parts.length).map (fun b => (List.range s.parts.length).map (fun x => @decide (Dom (nexts s) (b : Nat) (x : Nat)) (Classical.propDecidable _)))) b x ↔ Dom (nexts s) b x := fun b x => by
      unfold Mt
      constructor
      · rintro ⟨row, h5, h6⟩
        rw [List.getElem?_map] at h5
        obtain ⟨b', hb', rfl⟩ := Option.map_eq_some_iff.1 h5
        obtain ⟨hb1, rfl⟩ := List.getElem?_eq_some_iff.1 hb'
        rw [List.getElem?_map] at h6
        obtain ⟨x', hx', h7⟩ := Option.map_eq_some_iff.1 h6
        obtain ⟨hx1, rfl⟩ := List.getElem?_eq_some_iff.1 hx'
        rw [List.getElem_range, List.getElem_range] at h7
        exact @of_decide_eq_true _ (Classical.propDecidable _) h7
      · intro h5
        have r1 := h5.1.range ⟨by omega, by omega⟩ hir
        have r2 := h5.2.1.range ⟨by omega, by omega⟩ hir
        rw [nexts_len] at r1 r2
        refine ⟨_, by rw [List.getElem?_map, List.getElem?_range (by omega)]; rfl, ?_⟩
        rw [List.getElem?_map, List.getElem?_range (by omega)]
        exact congrArg some (@decide_eq_true _ (Classical.propDecidable _) h5)
    refine ⟨h.n1, h.n2, h.v1, h.v2, h3, fun x hx => ?_, by simp, fun b hb => by simp, hmt, fun k hk => ?_⟩
    · have := (h.us x _ (List.getElem?_eq_getElem hx)).rch
      exact (rch_all hir hn0).2 (rch_graph.1 this)
    · have hu := h.us k _ (List.getElem?_eq_getElem hk)
      rw [hd] at hu
      exact (use_iff h.v1 h4 h3 hmt (List.getElem?_eq_getElem hk)).2 ⟨hu.code, hu.ends⟩
end Go.Proofs.YtnfaibenekninaaGreat.L

set_option linter.unusedVariables false
set_option linter.unusedSimpArgs false
namespace Go.Proofs.YtnfaibenekninaaGreat.L
open Go.RowKit
theorem toSsa_rd {F : Nat → Prop} (x : Sa) (vparts : Value) (w : World) (hparts : Rp.Rd part w F vparts x.parts) (hx : SaLim x) :
    Calls Tryz.prog 8 #[saV x vparts] w fun e w' => ∃ vparts', e = .returned (saV x vparts') ∧ Rp.Rd part w' (fun k => w.heap.size ≤ k) vparts' x.parts ∧ Below w.heap.size w w' := by
  refine (toSsa_calls x vparts w hparts hx).mono ?_
  rintro e w' ⟨v', rfl, hK, hb⟩
  obtain ⟨v2, h1, h2⟩ := ssa_open (ssaA_le.2 hK)
  simp only [List.cons.injEq, and_true] at h1
  obtain rfl := h1
  exact ⟨v', rfl, h2, hb⟩
end Go.Proofs.YtnfaibenekninaaGreat.L

set_option linter.unusedVariables false
namespace Go.Proofs.YtnfaibenekninaaGreat.L
open Go.RowKit Go.ChangeShapes Go.WideShapes
structure Opens (P : Program) (t : TypeId) {α : Type} (r : Rp α) : Prop where
  cells : P.cellsOf t = r.sz
  out : ∀ {H : Type} (enc : TypeId × Value → H) (w : World) (fuel : Nat) (cs : List Value) (x : DataW H × List MemPlace),
    DataW.trod enc P w 0 (fun _ => true) true fuel t cs = some x → ∃ y, r.K w (fun _ => True) y cs
structure OpensFs (P : Program) (fs : List Field) (off : Nat) {α : Type} (r : Rp α) : Prop where
  out : ∀ {H : Type} (enc : TypeId × Value → H) (w : World) (n : Nat) (cs : List Value), off + r.sz ≤ cs.length →
    (∀ (i : Nat) (f : Field), fs[i]? = some f → ∃ x, DataW.trod enc P w 0 (fun _ => true) true n f.type ((cs.drop f.offset).take (P.cellsOf f.type)) = some x) → ∃ y, r.K w (fun _ => True) y ((cs.drop off).take r.sz)
namespace Opens
variable {P : Program} {t : TypeId}
theorem int (ht : P.underlying t = some (.int .i64)) (hc : P.cellsOf t = 1) : Opens P t Rp.int := ⟨hc, fun enc w fuel cs x h => by
  obtain ⟨n, rfl, _⟩ := DataW.trod_int ht h
  exact ⟨n, rfl⟩⟩
theorem bool (ht : P.underlying t = some .bool) (hc : P.cellsOf t = 1) : Opens P t Rp.bool := ⟨hc, fun enc w fuel cs x h => by
  obtain ⟨n, rfl, _⟩ := DataW.trod_bool ht h
  exact ⟨n, rfl⟩⟩
theorem str (ht : P.underlying t = some .string) (hc : P.cellsOf t = 1) : Opens P t Rp.str := ⟨hc, fun enc w fuel cs x h => by
  obtain ⟨n, rfl, _⟩ := DataW.trod_string ht h
  exact ⟨n, rfl⟩⟩
theorem mapM_get {β γ : Type} {f : β → Option γ} : ∀ {l : List β} {ys : List γ}, l.mapM f = some ys → ∀ (i : Nat) (b : β), l[i]? = some b → ∃ y, ys[i]? = some y ∧ f b = some y
  | [], ys, h, i, b, hb => by simp at hb
  | a :: l, ys, h, i, b, hb => by
    rw [List.mapM_cons] at h
    cases ha : f a with
    | none => rw [ha] at h; cases h
    | some y =>
      rw [ha] at h
      cases hl : l.mapM f with
      | none => rw [hl] at h; cases h
      | some zs =>
        rw [hl] at h
        cases h
        cases i with
        | zero => cases hb; exact ⟨y, rfl, ha⟩
        | succ i => exact mapM_get hl i b hb
theorem cells_get {w : World} {a : Addr} {n : Nat} {cs : List Value} (h : w.cells? 0 a n = some cs) : cs.length = n ∧ ∀ j u, cs[j]? = some u → w.cell? (a.add j) = some u := by
  unfold World.cells? at h
  rw [if_pos (Nat.zero_le _)] at h
  have hl : ∀ {l : List Nat} {ys : List Value}, l.mapM (fun i => w.cell? (a.add i)) = some ys → ys.length = l.length := by
    intro l
    induction l with
    | nil => intro ys h; cases h; rfl
    | cons b l ih =>
      intro ys h
      rw [List.mapM_cons] at h
      cases hb : w.cell? (a.add b) with
      | none => rw [hb] at h; cases h
      | some y =>
        rw [hb] at h
        cases hl : l.mapM (fun i => w.cell? (a.add i)) with
        | none => rw [hl] at h; cases h
        | some zs => rw [hl] at h; cases h; simp [ih hl]
  have hlen := hl h
  rw [List.length_range] at hlen
  refine ⟨hlen, fun j u hu => ?_⟩
  have hj : j < n := by rw [← hlen]; exact (List.getElem?_eq_some_iff.1 hu).1
  obtain ⟨y, hy, hc⟩ := mapM_get h j j (by rw [List.getElem?_range hj])
  rw [hu] at hy
  cases hy
  exact hc
theorem plain_of_cell {w : World} {a : Addr} {u : Value} (h : w.cell? a = some u) : a = ⟨a.block, a.off, none⟩ ∧ a.block < w.heap.size := by
  obtain ⟨b, o, s⟩ := a
  unfold World.cell? at h
  split at h
  · rename_i c t fr hb
    cases s with
    | none => exact ⟨rfl, (Array.getElem?_eq_some_iff.1 hb).1⟩
    | some s => simp at h
  · cases h
theorem slice {e : TypeId} {α : Type} {r : Rp α} (h : Opens P e r) (ht : P.underlying t = some (.slice e)) (hc : P.cellsOf t = 1) (h0 : 0 < r.sz) : Opens P t (Rp.sl r) := ⟨hc, fun enc w fuel cs x hx => by
  rcases Deep.open_slice ht hx with ⟨rfl, _⟩ | ⟨a, len, cap, m, n, D, Pl, rfl, _, hl, hm, hmm, _, hel⟩
  · exact ⟨[], _, rfl, Rp.Rd.nil r w _⟩
  · simp only [if_true] at hmm
    have each : ∀ i, i < len → ∃ y cs', r.K w (fun _ => True) y cs' ∧ (∀ j u, cs'[j]? = some u → w.cell? ((a.add (i * r.sz)).add j) = some u) ∧ cs'.length = r.sz := by
      intro i hi
      obtain ⟨cs', h1, h2⟩ := hel i (by omega)
      rw [h.cells] at h1
      obtain ⟨y, hy⟩ := h.out enc w n cs' _ h2
      obtain ⟨hlen, hcell⟩ := cells_get h1
      exact ⟨y, cs', hy, hcell, hlen⟩
    by_cases hz : len = 0
    · subst hz
      exact ⟨[], _, rfl, some a, cap, rfl, by simp, hm, .inl rfl⟩
    · have ha : a = ⟨a.block, a.off, none⟩ ∧ a.block < w.heap.size := by
        obtain ⟨y, cs', _, hcell, hlen⟩ := each 0 (by omega)
        have hj : cs'[0]? = some (cs'[0]'(by omega)) := List.getElem?_eq_getElem (by omega)
        have := hcell 0 _ hj
        rw [Nat.zero_mul] at this
        have e0 : ((a.add 0).add 0) = a := by simp [Addr.add]
        rw [e0] at this
        exact plain_of_cell this
      obtain ⟨b, o, s⟩ := a
      simp only [Addr.mk.injEq, true_and] at ha
      obtain ⟨rfl, hb⟩ := ha
      let g : Nat → α := fun i => if hi : i < len then (each i hi).choose else (each 0 (by omega)).choose
      refine ⟨(List.range len).map g, _, rfl, some ⟨b, o, none⟩, cap, by simp, by simpa using hl, hm, .inr ⟨b, o, rfl, trivial, hb, fun i y hy => ?_⟩⟩
      rw [List.getElem?_map] at hy
      obtain ⟨i', hi', rfl⟩ := Option.map_eq_some_iff.1 hy
      have hlt : i < len := by
        rcases Nat.lt_or_ge i len with hh | hh
        · exact hh
        · rw [List.getElem?_eq_none (by simpa using hh)] at hi'; cases hi'
      rw [List.getElem?_range hlt] at hi'
      cases hi'
      obtain ⟨cs', hK, hcell, hlen⟩ := (each i hlt).choose_spec
      refine ⟨cs', ?_, fun j u hu => ?_⟩
      · show r.K w _ (g i) cs'
        have : g i = (each i hlt).choose := dif_pos hlt
        rw [this]; exact hK
      · have := hcell j u hu
        rw [Addr.add_lit, Addr.add_lit, Nat.add_assoc] at this
        exact this⟩
theorem last {f : Field} {off : Nat} {α : Type} {r : Rp α} (h : Opens P f.type r) (ho : f.offset = off) : OpensFs P [f] off r := ⟨fun enc w n cs hl hx => by
  obtain ⟨x, hx⟩ := hx 0 f rfl
  rw [h.cells, ho] at hx
  exact h.out enc w n _ x hx⟩
theorem cons {f : Field} {fs : List Field} {off : Nat} {α β : Type} {a : Rp α} {b : Rp β} (h : Opens P f.type a) (ho : f.offset = off) (hs : OpensFs P fs (off + a.sz) b) : OpensFs P (f :: fs) off (a.pair b) := ⟨fun enc w n cs hl hx => by
  have hl' : off + (a.sz + b.sz) ≤ cs.length := hl
  obtain ⟨x, h0⟩ := hx 0 f rfl
  rw [h.cells, ho] at h0
  obtain ⟨y, hy⟩ := h.out enc w n _ x h0
  obtain ⟨z, hz⟩ := hs.out enc w n cs (by omega) (fun i g hg => hx (i + 1) g hg)
  refine ⟨(y, z), _, _, ?_, hy, hz⟩
  show (cs.drop off).take (a.sz + b.sz) = _
  rw [List.take_add, List.drop_drop]⟩
theorem struct {fs : Array Field} {α β : Type} {r : Rp α} (hs : OpensFs P fs.toList 0 r) (ht : P.underlying t = some (.struct fs)) (hc : P.cellsOf t = r.sz) (f : β → α) (g : α → β) (hg : ∀ y, f (g y) = y) : Opens P t (r.iso f) := ⟨hc, fun enc w fuel cs x hx => by
  obtain ⟨xs, n, rfl, _, hlen, hxs, hfs⟩ := DataW.trod_struct ht hx
  rw [hc] at hlen
  obtain ⟨y, hy⟩ := hs.out enc w n cs (by omega) (fun i q hq => by
    have hq' : fs[i]? = some q := by rw [← Array.getElem?_toList]; exact hq
    have hi : i < xs.length := by rw [hxs]; exact (Array.getElem?_eq_some_iff.1 hq').1
    exact ⟨xs[i], by rw [hfs i q hq', List.getElem?_eq_getElem hi]⟩)
  refine ⟨g y, ?_⟩
  show r.K w _ (f (g y)) cs
  rw [hg, show cs = (cs.drop 0).take r.sz by rw [List.drop_zero, List.take_of_length_le (by omega)]]
  exact hy⟩
end Opens
end Go.Proofs.YtnfaibenekninaaGreat.L

set_option linter.unusedVariables false
namespace Go.Proofs.YtnfaibenekninaaGreat.L
open Go.RowKit
theorem opensInt : Opens Tryz.prog 3 Rp.int := Opens.int Tryz.underlying3 (by kernel_rfl)
theorem opensInts : Opens Tryz.prog 59 (Rp.sl Rp.int) := Opens.slice opensInt Tryz.underlying59 (by kernel_rfl) (by decide)
theorem opensIntss : Opens Tryz.prog 64 (Rp.sl (Rp.sl Rp.int)) := Opens.slice opensInts Tryz.underlying64 (by kernel_rfl) (by decide)
theorem opensFlat : Opens Tryz.prog 176 flat :=
  Opens.struct (fs := _) (Opens.cons opensInt rfl (Opens.cons opensInt rfl (Opens.cons opensInt rfl (Opens.cons opensInt rfl (Opens.cons opensInt rfl (Opens.last opensInt rfl)))))) Tryz.underlying176 (by kernel_rfl) Fl.t (fun p => ⟨p.1, p.2.1, p.2.2.1, p.2.2.2.1, p.2.2.2.2.1, p.2.2.2.2.2⟩) (fun _ => rfl)
theorem opensFlats : Opens Tryz.prog 58 (Rp.sl flat) := Opens.slice opensFlat Tryz.underlying58 (by kernel_rfl) (by decide)
theorem opensPart : Opens Tryz.prog 86 part :=
  Opens.struct (fs := _) (Opens.cons opensInts rfl (Opens.cons opensFlats rfl (Opens.cons opensInt rfl (Opens.cons opensInt rfl (Opens.cons opensInts rfl (Opens.last opensIntss rfl)))))) Tryz.underlying86 (by kernel_rfl) Pt.t (fun p => ⟨p.1, p.2.1, p.2.2.1, p.2.2.2.1, p.2.2.2.2.1, p.2.2.2.2.2⟩) (fun _ => rfl)
theorem opensParts : Opens Tryz.prog 22 (Rp.sl part) := Opens.slice opensPart Tryz.underlying22 (by kernel_rfl) (by decide)
theorem opensSsa : Opens Tryz.prog 24 ssa :=
  Opens.struct (fs := _) (Opens.cons opensParts rfl (Opens.last opensInt rfl)) Tryz.underlying24 (by kernel_rfl) Sa.t (fun p => ⟨p.1, p.2⟩) (fun _ => rfl)
end Go.Proofs.YtnfaibenekninaaGreat.L
