/- Joined texts, each of which was built by itself: JVw JCv JSz. -/
import Derived.Test.YtmcnoeinjocimaaFIsSplit8
import Derived.Test.YtmcnoeinjocimaaFIsSplit5
import Derived.Test.YtmcnoeinjocimaaFIsSplit6
import Derived.Test.YtmcnoeinjocimaaFIsSplit7
import Derived.Test.YtmcnoeinjocimaaFIsSplit3
import Derived.Deep.CutRange
import Derived.Test.YtmcnoeinjocimaaFIsSplit2
import Derived.Test.YtmcnoeinjocimaaProg
import Derived.Test.YtmcnoeinjocimaaFIsSplit1
set_option linter.unusedVariables false
set_option linter.unusedSimpArgs false
namespace Go.Proofs.Ytmcnoeinjocimaa.L
open Go.RowKit
theorem Ow.int_own {ap : Bool} {e g n c : Nat} {w : World} {F : Nat → Prop} {l : List Int} (h : Ow ap e Rp.int w F (.slice (some ⟨g, 0, none⟩) n c) l) : Ow true e Rp.int w (fun q => q = g) (.slice (some ⟨g, 0, none⟩) n c) l := by
  obtain ⟨φ, xs, h1, h2, h3, h4, h5⟩ := h
  exact ⟨fun _ _ => False, xs, h1, fun k hk => by simp [Value.ownBlock] at hk; exact hk.symm, fun _ _ h => h.elim, fun _ _ _ _ h => h.elim, fun i x hx => h5 i x hx⟩
theorem Ow.some_form {α : Type} {r : Rp α} {ap : Bool} {e : Nat} {w : World} {F : Nat → Prop} {v : Value} {l : List α} (h : Ow ap e r w F v l) (hl : 0 < l.length) : ∃ g c, v = .slice (some ⟨g, 0, none⟩) l.length c ∧ F g ∧ g < w.heap.size := by
  have hb := h.bound
  obtain ⟨φ, xs, ⟨_, h1⟩, h2, _⟩ := hb
  rcases h1 with ⟨rfl, hn⟩ | ⟨g, cap, cur, rfl, _, _, hc, hm, _⟩
  · omega
  · exact ⟨g, cap, rfl, h2 g (by simp [Value.ownBlock])⟩
theorem cell_new0 {w : World} {cs : Array Value} {t g : Nat} {u : Value} (hg : g = w.heap.size) (hu : cs[0]? = some u) : (w.alloc (.cells cs t)).cell? ⟨g, 0, none⟩ = some u := by
  subst hg
  exact ((cell_of_block (heap_alloc_new w (.cells cs t))).1 0).trans hu
theorem below_al {w w1 : World} {o : Obj} (h : Below w.heap.size w w1) : Below w.heap.size w (w1.alloc o) := h.alloc h.size o
theorem hsz (w : World) (o : Obj) : (w.alloc o).heap.size = w.heap.size + 1 := by simp
theorem Lib_hsd (w : World) : w.drew.heap.size = w.heap.size := rfl
theorem cell_al {w : World} {o : Obj} {a : Addr} {v : Value} (h : w.cell? a = some v) : (w.alloc o).cell? a = some v := cell_below (below_new _) h
theorem cell_dr {w : World} {a : Addr} {v : Value} (h : w.cell? a = some v) : w.drew.cell? a = some v := h
theorem blk_new0 {w : World} {o : Obj} {g : Nat} (hg : g = w.heap.size) : (w.alloc o).heap[g]? = some o := by
  subst hg
  exact heap_alloc_new w o
theorem blk_al {w : World} {o o2 : Obj} {g : Nat} (h : w.heap[g]? = some o) : (w.alloc o2).heap[g]? = some o := blk_below h (below_new _)
theorem blk_dr {w : World} {o : Obj} {g : Nat} (h : w.heap[g]? = some o) : w.drew.heap[g]? = some o := h
theorem ow_zero {w : World} {g N : Nat} (h : w.heap[g]? = some (.cells (madeCells #[.int .i64 0] N) 3 (0, 0))) (hN : N ≤ 1000000000) : Ow true 3 Rp.int w (fun q => q = g) (.slice (some ⟨g, 0, none⟩) N N) (List.replicate N 0) := by
  have := ow_of_ints (l := List.replicate N 0) h (by rw [toList_madeCells_one, List.map_replicate]) (by rw [List.length_replicate]; exact hN)
  rw [List.length_replicate] at this
  exact this
def partsI (s : Sa) : Int → List Pt → List Int → List Int → Option (List Int × List Int)
  | _, [], D, T => some (D, T)
  | k, p :: t, D, T => (partI s k p D T).bind (fun r => partsI s (k + 1) t r.1 r.2)
def nexts (s : Sa) : List (List Int) := s.parts.map (fun p : Pt => p.next)
structure GoodV (s : Sa) (D T : List Int) (M : List (List Bool)) : Prop where
  n1 : 1 ≤ s.parts.length
  n2 : s.parts.length ≤ 11
  v1 : 12 ≤ s.values
  v2 : s.values ≤ 250
  ps : partsI s 0 s.parts (List.replicate s.values.toNat (-1)) (List.replicate s.values.toNat 0) = some (D, T)
  all : ∀ x : Nat, x < s.parts.length → Rch (nexts s) (fun x => x ∉ ([] : List Int)) 0 x
  len : M.length = s.parts.length
  row : ∀ (b : Nat) (hb : b < M.length), M[b].length = s.parts.length
  mt : ∀ b x : Nat, Mt M b x ↔ Dom (nexts s) b x
  us : ∀ (k : Nat) (hk : k < s.parts.length), useB (fun i v => thereI s.values D T M k i v) s.parts[k] = true
theorem flat_le (m : Nat) : ∀ (l : List (List Int)), (∀ a ∈ l, a.length ≤ m) → l.flatten.length ≤ l.length * m
  | [], _ => by simp
  | a :: t, h => by
    have h1 := flat_le m t (fun x hx => h x (List.mem_cons_of_mem _ hx))
    have h2 := h a List.mem_cons_self
    rw [List.flatten_cons, List.length_append, List.length_cons, Nat.add_mul, Nat.one_mul]
    omega
theorem args_len {s : Sa} {p : Pt} (h : staticI s p = true) : p.args.length ≤ 6 := by
  unfold staticI at h
  simp only [Bool.and_eq_true] at h
  have ha := h.2
  have hg := h.1.1.2
  unfold argsS at ha
  split at ha
  · revert ha
    match p.args with
    | [] => intro; simp
    | [_] => intro; simp
    | _ :: _ :: _ => intro ha; cases ha
  · have hl := fitS_len _ _ _ ha
    unfold goB inB at hg
    simp only [Bool.and_eq_true] at hg
    have hg := hg.2
    split at hg
    · simp at hg; omega
    · split at hg
      · simp at hg; omega
      · split at hg
        · simp at hg; omega
        · simp at hg
          have := hg.2
          rw [this] at hl
          simp at hl
          omega
inductive ViewRes (F : Nat → Prop) (s : Sa) (vparts : Value) (w : World) (e : Ending) (w' : World) : Prop where
  | no (he : e = .returned (.pointer none)) (hn : Hid (¬ ∃ D T M, GoodV s D T M)) (hb : Below w.heap.size w w') : ViewRes F s vparts w e w'
  | yes (vb : Nat) (D T : List Int) (M : List (List Bool)) (vn vd vD vT : Value) (he : e = .returned (.pointer (some ⟨vb, 0, none⟩))) (hv : w'.heap[vb]? = some (viewC vparts s.values vn vd vD vT)) (hz : w.heap.size < vb)
      (hD : Rp.Rd Rp.int w' (fun q => w.heap.size ≤ q) vD D) (hT : Rp.Rd Rp.int w' (fun q => w.heap.size ≤ q) vT T) (hM : Rp.Rd (Rp.sl Rp.bool) w' (fun q => w.heap.size ≤ q) vd M)
      (hN : Rp.Rd (Rp.sl Rp.int) w' (fun q => F q ∧ q < w.heap.size ∨ w.heap.size ≤ q) vn (nexts s)) (hg : Hid (GoodV s D T M)) (hb : Below w.heap.size w w') : ViewRes F s vparts w e w'
theorem defI_len {V k : Int} : ∀ (l : List (Int × Int)) (D T D' T' : List Int), defI V k D T l = some (D', T') → D'.length = D.length ∧ T'.length = T.length
  | [], D, T, D', T', h => by cases h; exact ⟨rfl, rfl⟩
  | (v, a) :: t, D, T, D', T', h => by
    rw [defI] at h
    split at h
    · have := defI_len t _ _ _ _ h
      simpa using this
    · cases h
theorem defI_lt {V k n : Int} (hk : k < n) : ∀ (l : List (Int × Int)) (D T D' T' : List Int), defI V k D T l = some (D', T') → (∀ x ∈ D, x < n) → ∀ x ∈ D', x < n
  | [], D, T, D', T', h, hx => by cases h; exact hx
  | (v, a) :: t, D, T, D', T', h, hx => by
    rw [defI] at h
    split at h
    · refine defI_lt hk t _ _ _ _ h (fun x hx' => ?_)
      rcases List.mem_or_eq_of_mem_set hx' with h1 | rfl
      · exact hx x h1
      · exact hk
    · cases h
theorem partI_some {s : Sa} {k : Int} {p : Pt} {D T D' T' : List Int} (h : partI s k p D T = some (D', T')) : staticI s p = true ∧ (0 < k ∨ p.params = []) ∧ defI s.values k D T (itemsI p) = some (D', T') := by
  unfold partI at h
  split at h
  · rename_i h1
    simp only [Bool.and_eq_true, Bool.or_eq_true, decide_eq_true_eq, List.isEmpty_iff] at h1
    exact ⟨h1.1, h1.2, h⟩
  · cases h
theorem static_next {s : Sa} {p : Pt} (h : staticI s p = true) : ∀ x ∈ p.next, 0 ≤ x ∧ x < s.parts.length := fun x hx => by
  unfold staticI at h
  simp only [Bool.and_eq_true] at h
  have h2 := h.1.1.2
  unfold goB at h2
  simp only [Bool.and_eq_true, Bool.not_eq_true'] at h2
  have h2 := h2.1.2
  rw [List.any_eq_false] at h2
  have := h2 x hx
  unfold inB at this
  simp at this
  omega
theorem partsI_static {s : Sa} : ∀ (l : List Pt) (k : Int) (D T D' T' : List Int), partsI s k l D T = some (D', T') → ∀ p ∈ l, staticI s p = true
  | [], _, _, _, _, _, _, p, hp => by cases hp
  | q :: t, k, D, T, D', T', h, p, hp => by
    rw [partsI] at h
    obtain ⟨r, h1, h2⟩ := Option.bind_eq_some_iff.1 h
    rcases List.mem_cons.1 hp with rfl | hp
    · exact (partI_some (D' := r.1) (T' := r.2) h1).1
    · exact partsI_static t _ _ _ _ _ h2 p hp
theorem nexts_len (s : Sa) : (nexts s).length = s.parts.length := by unfold nexts; rw [List.length_map]
theorem nexts_inR {s : Sa} (h : ∀ p ∈ s.parts, staticI s p = true) : InR (nexts s) := fun l hl x hx => by
  obtain ⟨p, hp, rfl⟩ := List.mem_map.1 hl
  rw [nexts_len]
  exact static_next (h p hp) x hx
theorem getD_mt (M : List (List Bool)) (b x : Nat) : (M.getD b []).getD x false = true ↔ Mt M b x := by
  unfold Mt
  rw [List.getD_eq_getElem?_getD, List.getD_eq_getElem?_getD]
  cases h : M[b]? with
  | none => simp
  | some r => 
    simp
    cases h2 : r[x]? <;> simp
theorem there_congr {M M' : List (List Bool)} (h : ∀ b x : Nat, Mt M b x ↔ Mt M' b x) (V : Int) (D T : List Int) (pt i k : Int) : thereI V D T M pt i k = thereI V D T M' pt i k := by
  unfold thereI
  have : (M.getD pt.toNat []).getD (D.getD k.toNat 0).toNat false = (M'.getD pt.toNat []).getD (D.getD k.toNat 0).toNat false := by
    rw [Bool.eq_iff_iff, getD_mt, getD_mt]; exact h _ _
  rw [this]
def View0 (F : Nat → Prop) (s : Sa) (vparts : Value) (w : World) (N : Nat) (v : Value) (wx : World) : Prop :=
  ∃ (vb gd cd ga ca : Nat) (vn : Value), v = .pointer (some ⟨vb, 0, none⟩) ∧ wx.heap[vb]? = some (viewC vparts s.values vn (.slice none 0 0) (.slice (some ⟨gd, 0, none⟩) N cd) (.slice (some ⟨ga, 0, none⟩) N ca)) ∧
    gd ≠ ga ∧ vb ≠ gd ∧ vb ≠ ga ∧ w.heap.size < vb ∧ w.heap.size < gd ∧ w.heap.size < ga ∧ Ow true 3 Rp.int wx (fun q => q = gd) (.slice (some ⟨gd, 0, none⟩) N cd) (List.replicate N (-1)) ∧
    Ow true 3 Rp.int wx (fun q => q = ga) (.slice (some ⟨ga, 0, none⟩) N ca) (List.replicate N 0) ∧ Rp.Rd (Rp.sl Rp.int) wx (fun q => (F q ∧ q < w.heap.size) ∨ (w.heap.size < q ∧ q ≠ gd ∧ q ≠ ga ∧ q ≠ vb)) vn (s.parts.map (fun p : Pt => p.next)) ∧ Below w.heap.size w wx
set_option maxRecDepth 100000 in
set_option maxHeartbeats 4000000 in
theorem viewOf_calls {F : Nat → Prop} (s : Sa) (vparts : Value) (w : World) (hs : Rp.Rd part w F vparts s.parts) (hx1 : s.parts.length ≤ 1048576) (hx2 : ∀ p ∈ s.parts, PtLim p) :
    Calls Try.prog 52 #[saV s vparts] w (ViewRes F s vparts w) := by
  replace hs := hs.bound
  have HS := hs
  obtain ⟨A, c, rfl, hlc, hcm, hrow⟩ := rd_part hs
  have HCn := fun W (hW : Below w.heap.size w W) => nextsOf_calls s _ W (HS.below hW) hx1
  unfold saV at HCn ⊢
  have HR1 : Hid (inB s.parts.length 1 11 = true ↔ 1 ≤ s.parts.length ∧ s.parts.length ≤ 11) := Lib.hid (by unfold inB; simp; omega)
  have HR2 : Hid (inB s.values 12 250 = true ↔ 12 ≤ s.values ∧ s.values ≤ 250) := Lib.hid (by unfold inB; simp)
  have HC1 := Lib.hid (fun W => within_calls s.parts.length 1 11 W)
  have HC2 := Lib.hid (fun W => within_calls s.values 12 250 W)
  generalize inB s.parts.length 1 11 = r1 at *
  generalize inB s.values 12 250 = r2 at *
  have hB0 : Below w.heap.size w (w.alloc (.cells #[.slice A s.parts.length c, .int .i64 s.values] 29)) := below_new _
  have b0 := heap_alloc_new w (.cells #[.slice A s.parts.length c, .int .i64 s.values] 29)
  have hz0 : w.heap.size < (w.alloc (.cells #[.slice A s.parts.length c, .int .i64 s.values] 29)).heap.size := blk_lt b0
  replace HCn := Lib.hid HCn
  cases r1
  · have HN : Hid (¬ ∃ D T M, GoodV s D T M) := Lib.hid (fun ⟨_, _, _, h⟩ => by cases HR1.out.2 ⟨h.n1, h.n2⟩)
    clear HCn HC2 HR1 HR2
    go_enter Try.func52, Try.ntmps52
    go_wp2_with (go_at_call 77; refine (HC1.out _).mono ?_; rintro e w' ⟨rfl, rfl⟩)
    go_ret
    exact .no rfl HN hB0
  cases r2
  · have HN : Hid (¬ ∃ D T M, GoodV s D T M) := Lib.hid (fun ⟨_, _, _, h⟩ => by cases HR2.out.2 ⟨h.v1, h.v2⟩)
    clear HCn HR1 HR2
    go_enter Try.func52, Try.ntmps52
    go_wp2_with fail
    refine (HC1.out _).mono ?_
    rintro e w1 ⟨rfl, rfl⟩
    go_wp2_with fail
    refine (HC2.out _).mono ?_
    rintro e w1 ⟨rfl, rfl⟩
    go_wp2
    go_ret
    exact .no rfl HN hB0
  obtain ⟨hn1, hn2⟩ := HR1.out.1 rfl
  obtain ⟨hv1, hv2⟩ := HR2.out.1 rfl
  clear HR1 HR2
  obtain ⟨N, hN⟩ := Int.eq_ofNat_of_zero_le (by omega : 0 ≤ s.values)
  have hmk := mk_all Try.underlying35 infoInt N (by omega) (by omega)
  rw [← hN] at hmk
  replace hN := Lib.hid hN
  go_enter Try.func52, Try.ntmps52
  go_wp2_with fail
  refine (HC1.out _).mono ?_
  rintro e w1 ⟨rfl, rfl⟩
  go_wp2_with fail
  refine (HC2.out _).mono ?_
  rintro e w1 ⟨rfl, rfl⟩
  generalize w.alloc (.cells #[.slice A s.parts.length c, .int .i64 s.values] 29) = W0 at *
  obtain ⟨x0, _⟩ := cell_of_block b0
  have x00 : W0.cell? ⟨w.heap.size, 0, none⟩ = some (.slice A s.parts.length c) := (x0 0).trans rfl
  have x01 : W0.cell? ⟨w.heap.size, 1, none⟩ = some (.int .i64 s.values) := (x0 1).trans rfl
  have HCr : ∀ gx W (h : W.cell? ⟨gx, 0, none⟩ = some (.int .i64 (-1))), Calls Try.prog 79 #[.slice (some ⟨gx, 0, none⟩) 1 1, .int .i64 s.values] W fun e w' => ∃ gd cd, e = .returned (.slice (some ⟨gd, 0, none⟩) N cd) ∧ W.heap.size ≤ gd ∧ gd < w'.heap.size ∧ Ow true 3 Rp.int w' (fun q => q = gd) (.slice (some ⟨gd, 0, none⟩) N cd) (List.replicate N (-1)) ∧ Below W.heap.size W w' := fun gx W h => by
    have h0 := repeat_calls (-1) gx N W h (by have := hN.out; omega) (by have := hN.out; omega)
    rw [← hN.out] at h0
    refine h0.mono ?_
    rintro e w' ⟨v', rfl, hO, hb⟩
    obtain ⟨gd, cd, rfl, h1, h2⟩ := hO.some_form (by rw [List.length_replicate]; have := hN.out; omega)
    rw [List.length_replicate] at hO ⊢
    exact ⟨gd, cd, rfl, h1, h2, hO.int_own, hb⟩
  replace HCr := Lib.hid HCr
  have hmn : Builtin.zeroCells = Builtin.zeroCells := rfl
  go_wp2_with fail
  go_cut [3] from 17 to 28 (fun v wx => View0 F s (.slice A s.parts.length c) w N v wx ∧ wx.heap[w.heap.size]? = some (.cells #[.slice A s.parts.length c, .int .i64 s.values] 29 (0, 0)))
  case first =>
    go_region_held3 (fun w' => w'.cell? ⟨w.heap.size, 0, none⟩ = some (.slice A s.parts.length c) ∧ w'.cell? ⟨w.heap.size, 1, none⟩ = some (.int .i64 s.values))
      (first | go_keep | (go_split_ands; refine ⟨?_, ?_⟩ <;> (repeat (first | assumption | ((with_reducible refine cell_new0 ?_ ?_); (first | with_reducible rfl | exact (hsz _ _).symm | (simp; done) | (simp; omega)); rfl) | with_reducible refine cell_al ?_ | with_reducible refine cell_dr ?_ | refine cell_below (by assumption) ?_))))
      ((first | (go_at_call 78; refine (HCn.out _ (by repeat (first | assumption | with_reducible exact Below.refl _ _ | with_reducible refine below_drew ?_ | with_reducible refine below_drewN ?_ _ | with_reducible refine below_al ?_ | refine below_then ?_ (by assumption)))).mono ?_; rintro e wn ⟨vn, rfl, hvn, hbn⟩; obtain ⟨An, kn, rfl, _⟩ := id hvn) | (go_at_call 79; refine (HCr.out _ _ (by repeat (first | assumption | ((with_reducible refine cell_new0 ?_ ?_); (first | with_reducible rfl | exact (hsz _ _).symm | (simp; done) | (simp; omega)); rfl) | with_reducible refine cell_al ?_ | with_reducible refine cell_dr ?_ | refine cell_below (by assumption) ?_))).mono ?_; rintro e wd ⟨gd, cd, rfl, hgd1, hgd2, hgd, hbd⟩)))
    all_goals
      go_wp2_with fail
      go_meet
    all_goals
      rw [List.length_map] at hvn
      refine ⟨⟨_, gd, cd, _, _, _, rfl, (blk_new0 (by first | with_reducible rfl | exact (hsz _ _).symm | (simp; done) | (simp; omega))).trans rfl, ?_, ?_, ?_, ?_, ?_, ?_, hgd.below (by repeat (first | assumption | with_reducible exact Below.refl _ _ | with_reducible refine below_drew ?_ | with_reducible refine below_drewN ?_ _ | with_reducible refine below_al ?_ | refine below_then ?_ (by assumption))), ow_zero (by repeat (first | assumption | ((with_reducible refine blk_new0 ?_); (first | with_reducible rfl | exact (hsz _ _).symm | (simp; done) | (simp; omega))) | with_reducible refine blk_al ?_ | with_reducible refine blk_dr ?_ | refine blk_below ?_ (by assumption))) (by have := hN.out; omega), (hvn.bound.below (by repeat (first | assumption | with_reducible exact Below.refl _ _ | with_reducible refine below_drew ?_ | with_reducible refine below_drewN ?_ _ | with_reducible refine below_al ?_ | refine below_then ?_ (by assumption)))).mono ?_, by repeat (first | assumption | with_reducible exact Below.refl _ _ | with_reducible refine below_drew ?_ | with_reducible refine below_drewN ?_ _ | with_reducible refine below_al ?_ | refine below_then ?_ (by assumption))⟩, by repeat (first | assumption | ((with_reducible refine blk_new0 ?_); (first | with_reducible rfl | exact (hsz _ _).symm | (simp; done) | (simp; omega))) | with_reducible refine blk_al ?_ | with_reducible refine blk_dr ?_ | refine blk_below ?_ (by assumption))⟩
    all_goals
      have hsn := hbn.size
      have hsd := hbd.size
      simp only [hsz, Lib_hsd] at hsn hsd hgd1 hgd2 ⊢
    all_goals first
      | omega
      | (rintro q ⟨hq | hq, hq2⟩
         · exact .inl hq.1
         · right
           try simp only [hsz, Lib_hsd] at hq hq2
           omega)
  case rest =>
    obtain ⟨⟨vb, gd, cd, ga, ca, vn, rfl, hv, hdt, hvd, hva, hz1, hz2, hz3, hD, hT, hVn, hB⟩, b1⟩ := hcut
    have hFF : ∀ q, F q ∧ q < w.heap.size → q ≠ gd ∧ q ≠ ga := fun q hq => by have := hq.2; omega
    have hFA : ∀ q, F q ∧ q < w.heap.size → ¬ (q = gd ∨ q = ga) := fun q hq => by have := hq.2; omega
    have hPN : ∃ PR, Hid (partsI s 0 s.parts (List.replicate s.values.toNat (-1)) (List.replicate s.values.toNat 0) = PR) := ⟨_, Lib.hid rfl⟩
    obtain ⟨PR, HPR⟩ := hPN
    have hNN := hN.out
    have HNo : Hid (∀ D T, PR = none ∨ (PR = some (D, T) → ¬ ∃ M, GoodV s D T M) → (PR = none ∨ PR = some (D, T)) → ¬ ∃ D T M, GoodV s D T M) := Lib.hid (by
      rintro D T h1 h2 ⟨D', T', M, hg⟩
      have h3 := hg.ps
      rw [HPR.out] at h3
      rcases h2 with h2 | h2
      · rw [h2] at h3; cases h3
      · rw [h2] at h3; cases h3
        rcases h1 with h1 | h1
        · rw [h1] at h2; cases h2
        · exact h1 h2 ⟨M, hg⟩)
    have HJ0 : Hid ((List.replicate N (-1 : Int)).length = N ∧ (List.replicate N (0 : Int)).length = N ∧ (∀ x ∈ List.replicate N (-1 : Int), x < s.parts.length) ∧ partsI s (0 : Nat) (s.parts.drop 0) (List.replicate N (-1)) (List.replicate N 0) = PR) := Lib.hid ⟨List.length_replicate, List.length_replicate, fun x hx => by rw [List.eq_of_mem_replicate hx]; omega, by rw [← HPR.out, hN.out]; rfl⟩
    generalize List.replicate N (-1 : Int) = D0 at *
    generalize List.replicate N (0 : Int) = T0 at *
    obtain ⟨x1, _⟩ := cell_of_block b1
    have x10 : wc.cell? ⟨w.heap.size, 0, none⟩ = some (.slice A s.parts.length c) := (x1 0).trans rfl
    have HB1 := Lib.hid b1
    clear x1 b1 hNN HCn HC1 HC2 HCr hmk hmn x00 x01 x0 hrow
    go_wp2
    go_loopw [32] (fun i wr => ∃ (k : Nat) (D T : List Int), k ≤ s.parts.length ∧ i = .int .i64 k ∧ Ow true 3 Rp.int wr (fun q => q = gd) (.slice (some ⟨gd, 0, none⟩) N cd) D ∧ Ow true 3 Rp.int wr (fun q => q = ga) (.slice (some ⟨ga, 0, none⟩) N ca) T ∧ Chg (fun q => q = gd ∨ q = ga) wc wr ∧ wr.heap[vb]? = some (viewC (.slice A s.parts.length c) s.values vn (.slice none 0 0) (.slice (some ⟨gd, 0, none⟩) N cd) (.slice (some ⟨ga, 0, none⟩) N ca)) ∧ Hid (D.length = N ∧ T.length = N ∧ (∀ x ∈ D, x < s.parts.length) ∧ partsI s k (s.parts.drop k) D T = PR)) (fun i _ => s.parts.length - (intOf i).toNat)
    case atStart => exact ⟨0, D0, T0, Nat.zero_le _, rfl, hD, hT, Chg.refl _ _, hv, HJ0⟩
    case round =>
      clear hD hT hv HJ0 x10
      obtain ⟨k, D, T, hk, rfl, HD, HT, HC, hv, HJ⟩ := hrel
      rename World => wr
      have b1 := HC.blk HB1.out (by omega)
      obtain ⟨x1, _⟩ := cell_of_block b1
      have x10 : wr.cell? ⟨w.heap.size, 0, none⟩ = some (.slice A s.parts.length c) := (x1 0).trans rfl
      clear x1 b1
      by_cases hlt : k < s.parts.length
      · have HSr := ((HS.below hB).move (HC.same hFA))
        have HCp := Lib.hid (partOK_calls s D T k N vb gd cd ga ca _ vn _ wr hv HSr hFF HD HT hdt ⟨hvd, hva⟩ HJ.out.1 HJ.out.2.1 hN.out.symm hv1 hv2 hlt hn2 (hx2 _ (List.getElem_mem hlt)))
        have HX : Hid (partsI s k (s.parts.drop k) D T = (partI s k s.parts[k] D T).bind (fun r => partsI s (k + 1 : Nat) (s.parts.drop (k + 1)) r.1 r.2)) := Lib.hid (by rw [List.drop_eq_getElem_cons hlt]; rfl)
        have i0 : (0 : Int) ≤ (k : Int) := Int.natCast_nonneg _
        have i1 : (k : Int) < (s.parts.length : Int) := by omega
        go_wp2_with fail
        refine HCp.out.mono ?_
        rintro e w1 (⟨rfl, hn, hc⟩ | ⟨D2, T2, rfl, hy, hD2, hT2, hc2⟩)
        · have HN : Hid (¬ ∃ D T M, GoodV s D T M) := Lib.hid (HNo.out D T (.inl (by rw [← HJ.out.2.2.2, HX.out, hn.out]; rfl)) (.inl (by rw [← HJ.out.2.2.2, HX.out, hn.out]; rfl)))
          have hBe := (HC.trans hc).to_below hB hB.size (fun q hq => by omega)
          clear HCp HX hn HJ HNo
          go_wp2
          go_ret
          exact .no rfl HN hBe
        · have HJ2 : Hid (D2.length = N ∧ T2.length = N ∧ (∀ x ∈ D2, x < s.parts.length) ∧ partsI s (k + 1 : Nat) (s.parts.drop (k + 1)) D2 T2 = PR) := Lib.hid ⟨hy.out.2.1, hy.out.2.2, defI_lt i1 _ _ _ _ _ (partI_some hy.out.1).2.2 HJ.out.2.2.1, by rw [← HJ.out.2.2.2, HX.out, hy.out.1]; rfl⟩
          have hv2' := hc2.blk hv (by omega)
          clear HCp HX hy HJ
          go_wp2
          go_roundw
          case rel => exact ⟨k + 1, D2, T2, by omega, by go_num, hD2, hT2, HC.trans hc2, hv2', HJ2⟩
          case measure => simp [intOf]; omega
      · obtain rfl : k = s.parts.length := by omega
        have HPS : Hid (PR = some (D, T)) := Lib.hid (by rw [← HJ.out.2.2.2, List.drop_length]; rfl)
        have HLD : Hid (D.length = N ∧ T.length = N ∧ ∀ x ∈ D, x < s.parts.length) := Lib.hid ⟨HJ.out.1, HJ.out.2.1, HJ.out.2.2.1⟩
        have HST := partsI_static s.parts 0 _ _ D T (HPR.out.trans HPS.out)
        have HIR := nexts_inR HST
        have hVr := hVn.move (HC.same (fun q hq => by rcases hq with hq | hq; have := hq.2; omega; omega))
        have hnl := nexts_len s
        have HCd := Lib.hid (dominators_calls (nexts s) vn wr hVr (by omega) (by omega) HIR)
        obtain ⟨v0, v1, v2, v3, v4, v5⟩ := view_cells hv
        clear HJ hlt hk
        go_wp2_with fail
        refine HCd.out.mono ?_
        rintro e w1 ⟨vM, M, rfl, HM, hbM, HMM⟩
        obtain ⟨AM, kM, rfl, _, _⟩ := HM.form
        have hvw := blk_below hv hbM
        obtain ⟨y1, y2⟩ := cell_of_block hvw
        have y13 := y2 3
        have hvlt := blk_lt hv
        have hbz := hbM.size
        have hBr : Below w.heap.size w wr := HC.to_below hB hB.size (fun q hq => by omega)
        have hB1 : Below w.heap.size w w1 := below_then hBr hbM
        obtain ⟨z0, z1, z2, z3, z4, z5⟩ := view_cells hvw
        clear v0 v1 v2 v3 v4 v5
        go_wp2_with fail
        have hv3 : (w1.setCell ⟨vb, 3, none⟩ (.slice AM M.length kM)).heap[vb]? = some (viewC (.slice A s.parts.length c) s.values vn (.slice AM M.length kM) (.slice (some ⟨gd, 0, none⟩) N cd) (.slice (some ⟨ga, 0, none⟩) N ca)) := blk_put hvw 3 _
        have hB2 : Below w.heap.size w (w1.setCell ⟨vb, 3, none⟩ (.slice AM M.length kM)) := hB1.setCell (by show _ ≤ vb; omega) _
        have hD2 := (HD.below hbM).set_other (b := vb) (o := 3) (u := .slice AM M.length kM) (by omega)
        have hT2 := (HT.below hbM).set_other (b := vb) (o := 3) (u := .slice AM M.length kM) (by omega)
        have hM2 := (((Rp.Le.ow (Rp.Le.refl _)).rd HM.rd) : Rp.Rd (Rp.sl Rp.bool) w1 _ _ M).set_other (b := vb) (o := 3) (u := .slice AM M.length kM) (by omega)
        have hV2 := (hVr.below hbM).set_other (b := vb) (o := 3) (u := .slice AM M.length kM) (by omega)
        have hb1x := blk_set (a := ⟨vb, 3, none⟩) (blk_below (HC.blk HB1.out (by omega)) hbM) (by show w.heap.size ≠ vb; omega) (.slice AM M.length kM)
        generalize w1.setCell ⟨vb, 3, none⟩ (.slice AM M.length kM) = w2 at *
        refine (reach_calls (nexts s) vn (.slice none 0 0) 0 [] w2 hV2 (Rp.Rd.nil Rp.int w2 (fun _ => False)) (by omega) (by omega) (by omega) HIR).mono ?_
        rintro e w3 ⟨vB, B, rfl, HBo, hb3, HRB⟩
        have hB3 : Below w.heap.size w w3 := below_then hB2 hb3
        have HAL : Hid (B.contains false = false ↔ ∀ x : Nat, x < s.parts.length → Rch (nexts s) (fun x => x ∉ ([] : List Int)) 0 x) := Lib.hid (by
          have hh := HRB.out
          constructor
          · intro h x hx
            have hxl : x < B.length := by rw [hh.1, hnl]; exact hx
            have hne : B[x] = true := by
              cases hb : B[x]
              · have h1 : false ∈ B := hb ▸ List.getElem_mem hxl
                have h2 := List.contains_iff_mem.2 h1
                rw [h] at h2; cases h2
              · rfl
            exact (hh.2 x).1 ⟨x, rfl, by rw [List.getElem?_eq_getElem hxl, hne]⟩
          · intro h
            cases hc : B.contains false
            · rfl
            · obtain ⟨x, hx, he⟩ := List.getElem_of_mem (List.contains_iff_mem.1 hc)
              obtain ⟨m, hm, hmt⟩ := (hh.2 x).2 (h x (by rw [← hnl, ← hh.1]; exact hx))
              obtain rfl : x = m := by omega
              rw [List.getElem?_eq_getElem hx, he] at hmt; cases hmt)
        have HCb := Lib.hid (containsBool_calls vB B false w3 HBo.rd)
        have hv4 := blk_below hv3 hb3
        have hD4 := hD2.below hb3
        have hT4 := hT2.below hb3
        have hM4 := hM2.below hb3
        have hV4 := hV2.below hb3
        have hb14 := blk_below hb1x hb3
        clear HBo HRB hV2 hM2 hT2 hD2 hB2 hv3 y1 y2 y13 z0 z1 z2 z3 z4 z5 hvw HCd x10
        have HMR := HMM
        generalize B.contains false = rb at *
        go_wp2_with fail
        refine HCb.out.mono ?_
        rintro e w4 ⟨rfl, rfl⟩
        clear HCb
        cases rb
        rotate_left
        · have HN : Hid (¬ ∃ D T M, GoodV s D T M) := Lib.hid (fun ⟨_, _, _, h⟩ => by cases HAL.out.2 h.all)
          clear HAL HNo
          go_wp2
          go_ret
          exact .no rfl HN hB3
        have HALL : Hid (∀ x : Nat, x < s.parts.length → Rch (nexts s) (fun x => x ∉ ([] : List Int)) 0 x) := Lib.hid (HAL.out.1 rfl)
        clear HAL
        have HSA := Lib.hid HST
        clear HST
        have hbox4 := hb14
        obtain ⟨x1, _⟩ := cell_of_block hbox4
        have x10 : w4.cell? ⟨w.heap.size, 0, none⟩ = some (.slice A s.parts.length c) := (x1 0).trans rfl
        clear x1
        have HU0 : Hid (∀ (j : Nat) (hj : j < s.parts.length), j < 0 → useB (fun i v => thereI s.values D T M j i v) s.parts[j] = true) := Lib.hid (fun j _ h => absurd h (Nat.not_lt_zero _))
        go_wp2
        go_loopw [57] (fun i wr => ∃ k : Nat, k ≤ s.parts.length ∧ i = .int .i64 k ∧ Below w4.heap.size w4 wr ∧ Hid (∀ (j : Nat) (hj : j < s.parts.length), j < k → useB (fun i v => thereI s.values D T M j i v) s.parts[j] = true)) (fun i _ => s.parts.length - (intOf i).toNat)
        case atStart => exact ⟨0, Nat.zero_le _, rfl, Below.refl _ _, HU0⟩
        case round =>
          clear HU0 x10
          obtain ⟨k, hk, rfl, HBk, HK⟩ := hrel
          rename World => ws
          have hBs : Below w.heap.size w ws := below_then hB3 HBk
          have x10 : ws.cell? ⟨w.heap.size, 0, none⟩ = some (.slice A s.parts.length c) := ((cell_of_block (blk_below hbox4 HBk)).1 0).trans rfl
          by_cases hlt : k < s.parts.length
          · have hst := HSA.out _ (List.getElem_mem hlt)
            have hal := args_len hst
            have hlm := hx2 _ (List.getElem_mem hlt)
            have hfl := flat_le 1048576 _ hlm.2.2.2.2
            have HCu := Lib.hid (usesOK_calls s k vb _ vn _ _ _ D T M ws (blk_below hv4 HBk) (HS.below hBs) (hD4.rd.below HBk) (hT4.rd.below HBk) (hM4.below HBk) (by have := HLD.out.1; have := hN.out; omega) (by have := HLD.out.2.1; have := hN.out; omega) hv2 (by rw [HMM.out.1]; omega)
              (fun q hq h0 => by rw [HMM.out.2.1 k (by rw [HMM.out.1]; omega)]; have := HLD.out.2.2 _ (List.getElem_mem hq); omega) hlt hlm (by omega) (by omega))
            clear hal hfl
            have i0 : (0 : Int) ≤ (k : Int) := Int.natCast_nonneg _
            have i1 : (k : Int) < (s.parts.length : Int) := by omega
            generalize hub : useB (fun i v => thereI s.values D T M k i v) s.parts[k] = ub at HCu
            replace hub := Lib.hid hub
            go_wp2_with fail
            refine HCu.out.mono ?_
            rintro e w5 ⟨rfl, hb5⟩
            cases ub
            · have HN : Hid (¬ ∃ D T M, GoodV s D T M) := Lib.hid (HNo.out D T (.inr (fun _ ⟨M', hg⟩ => by
                have h1 := hg.us k hlt
                have h2 : (fun i v => thereI s.values D T M' k i v) = (fun i v => thereI s.values D T M k i v) := by
                  funext i v
                  exact there_congr (fun b x => (hg.mt b x).trans (HMM.out.2.2 b x).symm) _ _ _ _ _ _
                rw [h2, hub.out] at h1
                cases h1)) (.inr HPS.out))
              have hBe := below_then hBs hb5
              clear HCu HNo hub
              go_wp2
              go_ret
              exact .no rfl HN hBe
            · have HK2 : Hid (∀ (j : Nat) (hj : j < s.parts.length), j < k + 1 → useB (fun i v => thereI s.values D T M j i v) s.parts[j] = true) := Lib.hid (fun j hj hjk => by
                rcases Nat.lt_or_ge j k with h | h
                · exact HK.out j hj h
                · obtain rfl : j = k := by omega
                  exact hub.out)
              have hBk2 := below_then HBk hb5
              clear HCu hub HK
              go_wp2
              go_roundw
              case rel => exact ⟨k + 1, by omega, by go_num, hBk2, HK2⟩
              case measure => simp [intOf]; omega
          · obtain rfl : k = s.parts.length := by omega
            have HG : Hid (GoodV s D T M) := Lib.hid ⟨hn1, hn2, hv1, hv2, HPR.out.trans HPS.out, HALL.out, HMM.out.1.trans hnl, fun b hb => (HMM.out.2.1 b hb).trans hnl, HMM.out.2.2, fun j hj => HK.out j hj hj⟩
            have e1 := blk_below hv4 HBk
            have e2 := hD4.rd.below HBk
            have e3 := hT4.rd.below HBk
            have e4 := hM4.below HBk
            have e5 := hV4.below HBk
            clear HK HNo HSA hlt hk
            go_wp2
            go_ret
            exact .yes vb D T M vn _ _ _ rfl e1 hz1 (e2.mono (fun q hq => by omega)) (e3.mono (fun q hq => by omega)) (e4.mono (fun q hq => by have := hBr.size; omega)) (e5.mono (fun q hq => by rcases hq with hq | hq; exact .inl hq; right; omega)) HG hBs
end Go.Proofs.Ytmcnoeinjocimaa.L

set_option linter.unusedVariables false
set_option linter.unusedSimpArgs false
namespace Go.Proofs.Ytmcnoeinjocimaa.L
open Go.RowKit
/-- A Bool that says whether there is a view. -/
inductive GoodResI (s : Sa) (w : World) (e : Ending) (w' : World) : Prop where
  | mk (b : Bool) (he : e = .returned (.bool b)) (hg : Hid (b = true ↔ ∃ D T M, GoodV s D T M)) (hb : Below w.heap.size w w') : GoodResI s w e w'
theorem goodI_calls {F : Nat → Prop} (s : Sa) (vparts : Value) (w : World) (hs : Rp.Rd part w F vparts s.parts) (hx1 : s.parts.length ≤ 1048576) (hx2 : ∀ p ∈ s.parts, PtLim p) :
    Calls Try.prog 15 #[saV s vparts] w (GoodResI s w) := by
  obtain ⟨A, c, rfl, _, _, _⟩ := rd_part hs
  have HC := Lib.hid (fun W (hW : Below w.heap.size w W) => viewOf_calls s _ W (hs.below hW) hx1 hx2)
  unfold saV at HC ⊢
  have hB0 : Below w.heap.size w (w.alloc (.cells #[.slice A s.parts.length c, .int .i64 s.values] 29)) := below_new _
  go_enter Try.func15, Try.ntmps15
  go_wp2_with fail
  refine (HC.out _ hB0).mono ?_
  rintro e w1 (⟨rfl, hn, hb⟩ | ⟨vb, D, T, M, vn, vd, vD, vT, rfl, hv, hz, hD, hT, hM, hN, hg, hb⟩)
  · have HN : Hid (false = true ↔ ∃ D T M, GoodV s D T M) := Lib.hid ⟨fun h => Bool.noConfusion h, fun h => absurd h hn.out⟩
    have hb2 := below_then hB0 hb
    clear hn
    go_wp2
    go_ret
    exact .mk _ rfl HN hb2
  · have HN : Hid (true = true ↔ ∃ D T M, GoodV s D T M) := Lib.hid ⟨fun _ => ⟨D, T, M, hg.out⟩, fun _ => rfl⟩
    have hb2 := below_then hB0 hb
    clear hg
    go_wp2
    go_ret
    exact .mk _ rfl (Lib.hid ⟨fun _ => HN.out.1 trivial, fun _ => rfl⟩) hb2
end Go.Proofs.Ytmcnoeinjocimaa.L

set_option linter.unusedVariables false
set_option linter.unusedSimpArgs false
namespace Go.Proofs.Ytmcnoeinjocimaa.L
open Go.RowKit
def zPt : Pt := ⟨[], [], 0, 0, [], []⟩
theorem zPt_mk (w : World) : partA.K w (fun _ => False) zPt [.slice none 0 0, .slice none 0 0, .int .i64 0, .int .i64 0, .slice none 0 0, .slice none 0 0] :=
  partA_mk (G0 := fun _ => False) (G1 := fun _ => False) (G2 := fun _ => False) (G3 := fun _ => False) (fun _ h => h) (fun _ h => h) (fun _ h => h) (fun _ h => h) (fun _ h _ => h) (fun _ h _ => h) (fun _ h _ => h) (fun _ h _ => h) (fun _ h _ => h) (fun _ h _ => h) (Ow.nil _ _ _ _ _) (Ow.nil _ _ _ _ _) (Ow.nil _ _ _ _ _) (Ow.nil _ _ _ _ _)
theorem Ow.part_at {e g n c : Nat} {w : World} {F : Nat → Prop} {l : List Pt} (h : Ow true e partA w F (.slice (some ⟨g, 0, none⟩) n c) l) {k : Nat} (hk : k < l.length) :
    ∃ vparams vcode vnext vargs, partAt w g (k * 6) l[k] vparams vcode vnext vargs ∧ ∀ o, w.frozen? ⟨g, o, none⟩ = false := by
  obtain ⟨g', c', cs, he, _, _, hK, hc, hf⟩ := h.at_ (List.getElem?_eq_getElem hk)
  injection he with he _ _
  injection he with he
  injection he with he _
  subst he
  obtain ⟨_, _, _, _, _, _, _, _, _, _, _, _, _, _, vparams, vcode, vnext, vargs, rfl, _, _, _, _⟩ := partA_open hK
  exact ⟨vparams, vcode, vnext, vargs, partAt_of hc, hf⟩
set_option maxHeartbeats 1000000 in
theorem toPartS_calls {F : Nat → Prop} (v : Value) (l : List Pt) (w : World) (h : Rp.Rd part w F v l) (hl : l.length ≤ 1048576) (hx : ∀ x ∈ l, PtLim x) :
    Calls Try.prog 51 #[v] w fun e w' => ∃ v', e = .returned v' ∧ Ow true 54 partA w' (fun k => w.heap.size ≤ k) v' l ∧ Below w.heap.size w w' := by
  obtain ⟨A, c, rfl, hlc, hcm, hrow⟩ := rd_part h
  have hmk := mk_all Try.underlying27 infoPart l.length (by omega) (by omega)
  go_enter Try.func51, Try.ntmps51
  go_wp2
  have hstart : Ow true 54 partA (w.alloc (.cells (madeCells #[.slice none 0 0, .slice none 0 0, .int .i64 0, .int .i64 0, .slice none 0 0, .slice none 0 0] (l.length * 6)) 54)) (fun k => w.heap.size ≤ k) (.slice (some ⟨w.heap.size, 0, none⟩) l.length l.length) (List.replicate l.length zPt) :=
    (ow_alloc (r := partA) w (by omega) rfl (by decide) zPt_mk).mono (fun k hk => by omega)
  go_loopw [4] (fun i wr => ∃ k : Nat, k ≤ l.length ∧ i = .int .i64 k ∧ Ow true 54 partA wr (fun k => w.heap.size ≤ k) (.slice (some ⟨w.heap.size, 0, none⟩) l.length l.length) (l.take k ++ List.replicate (l.length - k) zPt) ∧ Below w.heap.size w wr) (fun i _ => l.length - (intOf i).toNat)
  case atStart =>
    exact ⟨0, Nat.zero_le _, rfl, by simpa using hstart, below_new _⟩
  case round =>
    obtain ⟨k, hk, rfl, HO, HB⟩ := hrel
    by_cases hlt : k < l.length
    · rcases hrow with rfl | ⟨b, o, rfl, hb, hcell⟩
      · simp at hlt
      obtain ⟨vparams, vcode, vnext, vargs, c1, hparams, hcode, hnext, hargs⟩ := hcell k hlt
      replace c1 := partAt_below c1 HB
      replace hparams := hparams.below HB
      replace hcode := hcode.below HB
      replace hnext := hnext.below HB
      replace hargs := hargs.below HB
      clear hcell hstart
      obtain ⟨q0, q1, q2, q3, q4, q5⟩ := c1
      have ⟨Bparams, dparams, yparams, _⟩ := hparams
      have ⟨Bcode, dcode, ycode, _⟩ := hcode
      have ⟨Bnext, dnext, ynext, _⟩ := hnext
      have ⟨Bargs, dargs, yargs, _⟩ := hargs
      subst yparams ycode ynext yargs
      have hy := hx l[k] (List.getElem_mem hlt)
      go_wp2_with fail
      refine (toPart_calls l[k] _ _ _ _ _ hparams hcode hnext hargs hy).mono ?_
      rintro e w1 ⟨vparams', vcode', vnext', vargs', rfl, HK, hb1⟩
      unfold ptV
      have HO1 := HO.bound.below hb1
      obtain ⟨pparams, pcode, pnext, pargs, ⟨r0, r1, r2, r3, r4, r5⟩, f2⟩ := HO1.part_at (k := k) (by simp; omega)
      obtain ⟨_, _, _, _, _, _, _, _, _, _, _, _, _, _, _, _, _, _, he, hhparams, hhcode, hhnext, hhargs⟩ := partA_open HK
      simp only [List.cons.injEq, true_and, and_true] at he
      obtain ⟨rfl, rfl, rfl, rfl⟩ := he
      obtain ⟨Aparams, kparams, rfl, _, _⟩ := hhparams.form
      obtain ⟨Acode, kcode, rfl, _, _⟩ := hhcode.form
      obtain ⟨Anext, knext, rfl, _, _⟩ := hhnext.form
      obtain ⟨Aargs, kargs, rfl, _, _⟩ := hhargs.form
      clear hhparams hhcode hhnext hhargs
      go_wp2_with fail
      go_roundw
      case rel =>
        refine ⟨k + 1, by omega, by go_num, ?_, putRow_below (g := w.heap.size) (below_then HB hb1) (Nat.le_refl _) [.slice Aparams l[k].params.length kparams, .slice Acode l[k].code.length kcode, .int .i64 l[k].go, .int .i64 l[k].test, .slice Anext l[k].next.length knext, .slice Aargs l[k].args.length kargs] (k * 6)⟩
        rw [← set_take_rep _ hlt]
        exact (HO1.put rfl (by simp; omega) HK (fun q hq hq2 => by omega)).mono (fun q hq => by have := HB.size; omega)
      case measure => simp [intOf]; omega
    · obtain rfl : k = l.length := by omega
      clear hstart
      go_wp2
      go_ret
      exact ⟨_, rfl, by simpa using HO, HB⟩
end Go.Proofs.Ytmcnoeinjocimaa.L

set_option linter.unusedVariables false
set_option linter.unusedSimpArgs false
namespace Go.Proofs.Ytmcnoeinjocimaa.L
open Go.RowKit
theorem infoSsa : (Try.prog.info? 29).map (fun i => (i.zero, i.size, i.bytes)) = some (some (.agg #[.slice none 0 0, .int .i64 0]), 2, 32) := by kernel_rfl
def SaLim (x : Sa) : Prop := x.parts.length ≤ 1048576 ∧ (∀ p ∈ x.parts, PtLim p)
set_option maxHeartbeats 4000000 in
theorem toSsa_calls {F : Nat → Prop} (x : Sa) (vparts : Value) (w : World) (hparts : Rp.Rd part w F vparts x.parts) (hx : SaLim x) :
    Calls Try.prog 14 #[saV x vparts] w fun e w' => ∃ vparts', e = .returned (saV x vparts') ∧ ssaA.K w' (fun k => w.heap.size ≤ k) x [vparts', .int .i64 x.values] ∧ Below w.heap.size w w' := by
  obtain ⟨l0, l1⟩ := hx
  unfold saV
  go_enter Try.func14, Try.ntmps14
  go_wp2_with fail
  have M : Mk w (.cells #[vparts, .int .i64 x.values] 24 (0, 0)) (.cells #[.slice none 0 0, .int .i64 0] 29 (0, 0)) 29 _ #[.slice none 0 0, .int .i64 0] := Mk.start (c3 := #[.slice none 0 0, .int .i64 0])
  refine (toPartS_calls vparts x.parts _ (hparts.below M.below) l0 l1).mono ?_
  rintro e w1 ⟨Vparts, rfl, Oparts, hb⟩
  have n0 := M.size
  replace M := M.call hb
  replace Oparts := Oparts.bound
  obtain ⟨Aparts, kparts, rfl, _, _⟩ := Oparts.form
  have z0 := hb.size
  simp only [World.size_alloc, World.size_setCell] at z0 n0 Oparts
  clear hb
  obtain ⟨c1, f1⟩ := cell_of_block M.b1; obtain ⟨c2, f2⟩ := cell_of_block M.b2; obtain ⟨c3, f3⟩ := cell_of_block M.b3
  have s1 := blk_lt M.b1; have s2 := blk_lt M.b2; have s3 := blk_lt M.b3
  go_wp2_with fail
  replace M := M.set 0 (.slice Aparts x.parts.length kparts)
  replace Oparts := ow_set3 (w := w) Oparts (by intro k hk; omega) 0 (.slice Aparts x.parts.length kparts)
  replace M := M.set 1 (.int .i64 x.values)
  replace Oparts := ow_set3 (w := w) Oparts (by intro k hk; omega) 1 (.int .i64 x.values)
  replace Oparts := ow_row3 (w := w) Oparts (by intro k hk; omega) [.slice Aparts x.parts.length kparts, .int .i64 x.values]
  have cF := (cell_of_block (blk_put (blk_put M.b2 0 (.slice Aparts x.parts.length kparts)) 1 (.int .i64 x.values))).1
  have HB := putRow_below M.below (g := w.heap.size + 1) (by omega) [.slice Aparts x.parts.length kparts, .int .i64 x.values] 0
  refine bodyPost_ret (v := .agg #[.slice Aparts x.parts.length kparts, .int .i64 x.values]) (by simp [results, Try.results14, go_sem, cF]) rfl ⟨_, rfl, ?_, HB⟩
  exact ssaA_mk (fun k hk => by omega) Oparts
end Go.Proofs.Ytmcnoeinjocimaa.L

set_option linter.unusedVariables false
namespace Go.Proofs.Ytmcnoeinjocimaa.L
open Go.RowKit
def szS (n : Nat) (left : Int) : Int := if left - n < 0 then -1 else left - n
theorem szS_bd {n : Nat} {left : Int} (h : left ≤ 1048576) : szS n left ≤ 1048576 ∧ -1 ≤ szS n left ∧ (0 ≤ szS n left → (n : Int) ≤ left ∧ 0 ≤ left) := by
  unfold szS; split <;> omega
theorem szIntS_calls {F : Nat → Prop} (v : Value) (l : List Int) (left : Int) (w : World) (h : Rp.Rd Rp.int w F v l) (h0 : -1 ≤ left) (h1 : left ≤ 1048576) :
    Calls Try.prog 107 #[v, .int .i64 left] w fun e w' => e = .returned (.int .i64 (szS l.length left)) ∧ w = w' := by
  obtain ⟨A, c, rfl, hlc, hcm, hrow⟩ := rd_int h
  clear hrow
  go_enter Try.func107, Try.ntmps107
  go_wp2
  all_goals
    go_ret
    exact ⟨ret_int (by unfold szS; split <;> omega), rfl⟩
theorem szFlatS_calls {F : Nat → Prop} (v : Value) (l : List Fl) (left : Int) (w : World) (h : Rp.Rd flat w F v l) (h0 : -1 ≤ left) (h1 : left ≤ 1048576) :
    Calls Try.prog 108 #[v, .int .i64 left] w fun e w' => e = .returned (.int .i64 (szS l.length left)) ∧ w = w' := by
  obtain ⟨A, c, rfl, hlc, hcm, hrow⟩ := rd_flat h
  clear hrow
  go_enter Try.func108, Try.ntmps108
  go_wp2
  all_goals
    go_ret
    exact ⟨ret_int (by unfold szS; split <;> omega), rfl⟩
end Go.Proofs.Ytmcnoeinjocimaa.L

set_option linter.unusedVariables false
namespace Go.Proofs.Ytmcnoeinjocimaa.L
open Go.RowKit
def szIs : List (List Int) → Int → Int
  | [], left => left
  | x :: t, left => if szS x.length left < 0 then -1 else szIs t (szS x.length left)
theorem szIs_bd : ∀ (l : List (List Int)) (left : Int), left ≤ 1048576 → szIs l left ≤ 1048576 ∧ (-1 ≤ left → -1 ≤ szIs l left) ∧ (0 ≤ szIs l left → ∀ x ∈ l, x.length ≤ 1048576)
  | [], left, h => ⟨h, fun h => h, fun _ x hx => by simp at hx⟩
  | y :: t, left, h => by
    have hb := szS_bd (n := y.length) h
    have ih := szIs_bd t (szS y.length left) hb.1
    rw [szIs]
    split
    · exact ⟨by omega, fun _ => by omega, fun h0 => by omega⟩
    · refine ⟨ih.1, fun _ => ih.2.1 hb.2.1, fun h0 x hx => ?_⟩
      rcases List.mem_cons.1 hx with rfl | hx
      · have := hb.2.2 (by omega); omega
      · exact ih.2.2 h0 x hx
def szIss (l : List (List Int)) (left : Int) : Int := if szS l.length left < 0 then -1 else szIs l (szS l.length left)
theorem szIss_bd {l : List (List Int)} {left : Int} (h : left ≤ 1048576) : szIss l left ≤ 1048576 ∧ -1 ≤ szIss l left ∧ (0 ≤ szIss l left → (l.length ≤ 1048576 ∧ ∀ x ∈ l, x.length ≤ 1048576) ∧ 0 ≤ left) := by
  have b := szS_bd (n := l.length) h
  have c := szIs_bd l _ b.1
  unfold szIss
  split
  · exact ⟨by omega, by omega, fun h0 => by omega⟩
  · refine ⟨c.1, c.2.1 b.2.1, fun h0 => ?_⟩
    have := b.2.2 (by omega)
    exact ⟨⟨by omega, c.2.2 h0⟩, by omega⟩
set_option maxHeartbeats 1000000 in
theorem szIntSS_calls {F : Nat → Prop} (v : Value) (l : List (List Int)) (left : Int) (w : World) (h : Rp.Rd (Rp.sl Rp.int) w F v l) (h0 : -1 ≤ left) (h1 : left ≤ 1048576) :
    Calls Try.prog 109 #[v, .int .i64 left] w fun e w' => e = .returned (.int .i64 (szIss l left)) ∧ Below w.heap.size w w' := by
  unfold szIss
  obtain ⟨A, c, rfl, hlc, hcm, hrow⟩ := rd_ints h
  have b1 := szS_bd (n := l.length) h1
  obtain ⟨s1, hs1⟩ : ∃ s1, s1 = szS l.length left := ⟨_, rfl⟩
  rw [← hs1] at b1 ⊢
  have hs2 : left - l.length < 0 ∧ s1 = -1 ∨ 0 ≤ left - l.length ∧ s1 = left - l.length := by rw [hs1]; unfold szS; split <;> omega
  clear hs1
  rcases hs2 with ⟨hneg, rfl⟩ | ⟨hpos, hs⟩
  · go_enter Try.func109, Try.ntmps109
    go_wp2
    go_ret
    exact ⟨by simp, Below.refl _ _⟩
  · have HS := Lib.hid hs
    clear hs
    obtain ⟨q0, q1, _⟩ := b1
    have hs0 : 0 ≤ s1 := by have := HS.out; omega
    go_enter Try.func109, Try.ntmps109
    go_wp2_with fail
    rw [← HS.out]
    go_loopw [1, 5] (fun t i wr => ∃ (k : Nat) (s : Int), k ≤ l.length ∧ i = .int .i64 k ∧ t = .int .i64 s ∧ 0 ≤ s ∧ s ≤ 1048576 ∧ Hid (szIs (l.drop k) s = szIs l s1) ∧ Below w.heap.size w wr) (fun _ i _ => l.length - (intOf i).toNat)
    case atStart => exact ⟨0, s1, Nat.zero_le _, rfl, rfl, hs0, q0, Lib.hid rfl, Below.refl _ _⟩
    case round =>
      obtain ⟨k, s, hk, rfl, rfl, p0, p1, HH, HB⟩ := hrel
      by_cases hlt : k < l.length
      · rcases hrow with rfl | ⟨b, o, rfl, hb, hcell⟩
        · simp at hlt
        obtain ⟨u, c1, hu⟩ := hcell k hlt
        replace c1 := cell_below HB c1
        replace hu := hu.below HB
        clear hcell
        have ⟨A0, k0, hvc, _⟩ := hu
        subst hvc
        have hbd := szS_bd (n := l[k].length) p1
        obtain ⟨y, hy⟩ : ∃ y, y = szS l[k].length s := ⟨_, rfl⟩
        have HC := szIntS_calls _ l[k] s wr hu (by omega) p1
        have HH2 : Hid (szIs (l.drop k) s = if y < 0 then -1 else szIs (l.drop (k + 1)) y) := Lib.hid (by rw [List.drop_eq_getElem_cons hlt, szIs, hy])
        rw [← hy] at HC hbd
        have HC := Lib.hid HC
        clear hy
        go_wp2_with (go_at_call 107; refine HC.out.mono ?_; rintro e w1 ⟨rfl, rfl⟩)
        · go_ret
          refine ⟨ret_int ?_, HB⟩
          try rw [if_neg (show ¬ s1 < 0 by omega)]
          rw [← HH.out, HH2.out, if_pos (by omega)]
        · go_roundw
          case rel => exact ⟨k + 1, y, by omega, by go_num, rfl, by omega, hbd.1, Lib.hid (by rw [← HH.out, HH2.out, if_neg (by omega)]), HB⟩
          case measure => simp [intOf]; omega
      · obtain rfl : k = l.length := by omega
        go_wp2
        go_ret
        refine ⟨ret_int ?_, HB⟩
        try rw [if_neg (show ¬ s1 < 0 by omega)]
        rw [← HH.out, List.drop_length, szIs]
end Go.Proofs.Ytmcnoeinjocimaa.L

set_option linter.unusedVariables false
set_option linter.unusedSimpArgs false
namespace Go.Proofs.Ytmcnoeinjocimaa.L
open Go.RowKit
def szPt (x : Pt) (left : Int) : Int := if szS x.params.length left < 0 then -1 else if szS x.code.length (szS x.params.length left) < 0 then -1 else if szS x.next.length (szS x.code.length (szS x.params.length left)) < 0 then -1 else szIss x.args (szS x.next.length (szS x.code.length (szS x.params.length left)))
theorem szPt_steps (x : Pt) (left : Int) (h : left ≤ 1048576) : ∃ s0 s1 s2 s3 : Int, szPt x left = (if s0 < 0 then -1 else (if s1 < 0 then -1 else (if s2 < 0 then -1 else s3))) ∧ s0 = szS x.params.length left ∧ s1 = szS x.code.length s0 ∧ s2 = szS x.next.length s1 ∧ s3 = szIss x.args s2 ∧ (s0 ≤ 1048576 ∧ -1 ≤ s0 ∧ s1 ≤ 1048576 ∧ -1 ≤ s1 ∧ s2 ≤ 1048576 ∧ -1 ≤ s2 ∧ s3 ≤ 1048576 ∧ -1 ≤ s3) := by
  refine ⟨(szS x.params.length left), (szS x.code.length (szS x.params.length left)), (szS x.next.length (szS x.code.length (szS x.params.length left))), (szIss x.args (szS x.next.length (szS x.code.length (szS x.params.length left)))), rfl, rfl, rfl, rfl, rfl, ?_⟩
  have b0 := szS_bd (n := x.params.length) h
  have b1 := szS_bd (n := x.code.length) b0.1
  have b2 := szS_bd (n := x.next.length) b1.1
  have b3 := szIss_bd (l := x.args) b2.1
  exact ⟨b0.1, b0.2.1, b1.1, b1.2.1, b2.1, b2.2.1, b3.1, b3.2.1⟩
theorem szPt_bd {x : Pt} {left : Int} (h : left ≤ 1048576) : szPt x left ≤ 1048576 ∧ -1 ≤ szPt x left ∧ (0 ≤ szPt x left → PtLim x ∧ 0 ≤ left) := by
  unfold szPt
  have b0 := szS_bd (n := x.params.length) h
  have b1 := szS_bd (n := x.code.length) b0.1
  have b2 := szS_bd (n := x.next.length) b1.1
  have b3 := szIss_bd (l := x.args) b2.1
  generalize szS x.params.length left = r0 at *
  generalize szS x.code.length r0 = r1 at *
  generalize szS x.next.length r1 = r2 at *
  generalize szIss x.args r2 = r3 at *
  refine ⟨by (repeat' split) <;> omega, by (repeat' split) <;> omega, fun h0 => ?_⟩
  have p0 : ¬ r0 < 0 := fun hn => by rw [if_pos hn] at h0; omega
  rw [if_neg p0] at h0
  have p1 : ¬ r1 < 0 := fun hn => by rw [if_pos hn] at h0; omega
  rw [if_neg p1] at h0
  have p2 : ¬ r2 < 0 := fun hn => by rw [if_pos hn] at h0; omega
  rw [if_neg p2] at h0
  have f0 := b0.2.2 (by omega)
  have f1 := b1.2.2 (by omega)
  have f2 := b2.2.2 (by omega)
  have f3 := b3.2.2 (by omega)
  exact ⟨⟨by omega, by omega, by omega, f3.1.1, f3.1.2⟩, by omega⟩
set_option maxHeartbeats 1000000 in
theorem szPart_calls {F : Nat → Prop} (x : Pt) (vparams vcode vnext vargs : Value) (left : Int) (w : World) (hparams : Rp.Rd Rp.int w F vparams x.params) (hcode : Rp.Rd flat w F vcode x.code) (hnext : Rp.Rd Rp.int w F vnext x.next) (hargs : Rp.Rd (Rp.sl Rp.int) w F vargs x.args) (h0 : -1 ≤ left) (h1 : left ≤ 1048576) :
    Calls Try.prog 70 #[ptV x vparams vcode vnext vargs, .int .i64 left] w fun e w' => e = .returned (.int .i64 (szPt x left)) ∧ Below w.heap.size w w' := by
  obtain ⟨s0, s1, s2, s3, HS, e0, e1, e2, e3, p0, q0, p1, q1, p2, q2, p3, q3⟩ := szPt_steps x left h1
  have H0 := fun W (hW : Below w.heap.size w W) => szIntS_calls vparams x.params left W (hparams.below hW) h0 h1
  rw [← e0] at H0
  have H0 := Lib.hid H0
  have H1 := fun W (hW : Below w.heap.size w W) => szFlatS_calls vcode x.code s0 W (hcode.below hW) q0 p0
  rw [← e1] at H1
  have H1 := Lib.hid H1
  have H2 := fun W (hW : Below w.heap.size w W) => szIntS_calls vnext x.next s1 W (hnext.below hW) q1 p1
  rw [← e2] at H2
  have H2 := Lib.hid H2
  have H3 := fun W (hW : Below w.heap.size w W) => szIntSS_calls vargs x.args s2 W (hargs.below hW) q2 p2
  rw [← e3] at H3
  have H3 := Lib.hid H3
  clear e0 e1 e2 e3
  have HS := Lib.hid HS
  have ⟨Aparams, kparams, yparams, _⟩ := hparams
  have ⟨Acode, kcode, ycode, _⟩ := hcode
  have ⟨Anext, knext, ynext, _⟩ := hnext
  have ⟨Aargs, kargs, yargs, _⟩ := hargs
  subst yparams ycode ynext yargs
  unfold ptV
  go_enter Try.func70, Try.ntmps70
  go_wp2_with fail
  have HB : Below w.heap.size w (w.alloc (.cells #[.slice Aparams x.params.length kparams, .slice Acode x.code.length kcode, .int .i64 x.go, .int .i64 x.test, .slice Anext x.next.length knext, .slice Aargs x.args.length kargs] 97)) := below_new _
  have b1 : (w.alloc (.cells #[.slice Aparams x.params.length kparams, .slice Acode x.code.length kcode, .int .i64 x.go, .int .i64 x.test, .slice Anext x.next.length knext, .slice Aargs x.args.length kargs] 97)).heap[w.heap.size]? = _ := heap_alloc_new _ _
  refine (H0.out _ HB).mono ?_
  rintro e w0 ⟨rfl, rfl⟩
  obtain ⟨c1, f1⟩ := cell_of_block b1
  by_cases n0 : s0 < 0
  · go_wp2
    go_ret
    refine ⟨ret_int ?_, HB⟩
    rw [HS.out]
    (repeat' split) <;> omega
  go_wp2_with fail
  refine (H1.out _ HB).mono ?_
  rintro e w1 ⟨rfl, rfl⟩
  clear c1 f1
  obtain ⟨c1, f1⟩ := cell_of_block b1
  by_cases n1 : s1 < 0
  · go_wp2
    go_ret
    refine ⟨ret_int ?_, HB⟩
    rw [HS.out]
    (repeat' split) <;> omega
  go_wp2_with fail
  refine (H2.out _ HB).mono ?_
  rintro e w2 ⟨rfl, rfl⟩
  clear c1 f1
  obtain ⟨c1, f1⟩ := cell_of_block b1
  by_cases n2 : s2 < 0
  · go_wp2
    go_ret
    refine ⟨ret_int ?_, HB⟩
    rw [HS.out]
    (repeat' split) <;> omega
  go_wp2_with fail
  refine (H3.out _ HB).mono ?_
  rintro e w3 ⟨rfl, hb⟩
  replace b1 := blk_below b1 hb
  replace HB := below_then HB hb
  clear hb
  clear c1 f1
  obtain ⟨c1, f1⟩ := cell_of_block b1
  by_cases n3 : s3 < 0
  all_goals
    go_wp2
    go_ret
    refine ⟨ret_int ?_, HB⟩
    rw [HS.out]
    try ((repeat' split) <;> omega)
end Go.Proofs.Ytmcnoeinjocimaa.L

set_option linter.unusedVariables false
set_option linter.unusedSimpArgs false
namespace Go.Proofs.Ytmcnoeinjocimaa.L
open Go.RowKit
def szPts : List Pt → Int → Int
  | [], left => left
  | x :: t, left => if szPt x left < 0 then -1 else szPts t (szPt x left)
theorem szPts_bd : ∀ (l : List Pt) (left : Int), left ≤ 1048576 → szPts l left ≤ 1048576 ∧ (-1 ≤ left → -1 ≤ szPts l left) ∧ (0 ≤ szPts l left → ∀ x ∈ l, PtLim x)
  | [], left, h => ⟨h, fun h => h, fun _ x hx => by simp at hx⟩
  | y :: t, left, h => by
    have hb := szPt_bd (x := y) h
    have ih := szPts_bd t (szPt y left) hb.1
    rw [szPts]
    split
    · exact ⟨by omega, fun _ => by omega, fun h0 => by omega⟩
    · refine ⟨ih.1, fun _ => ih.2.1 hb.2.1, fun h0 x hx => ?_⟩
      rcases List.mem_cons.1 hx with rfl | hx
      · exact (hb.2.2 (by omega)).1
      · exact ih.2.2 h0 x hx
def szPtl (l : List Pt) (left : Int) : Int := if szS l.length left < 0 then -1 else szPts l (szS l.length left)
theorem szPtl_bd {l : List Pt} {left : Int} (h : left ≤ 1048576) : szPtl l left ≤ 1048576 ∧ -1 ≤ szPtl l left ∧ (0 ≤ szPtl l left → (l.length ≤ 1048576 ∧ ∀ x ∈ l, PtLim x) ∧ 0 ≤ left) := by
  have b := szS_bd (n := l.length) h
  have c := szPts_bd l _ b.1
  unfold szPtl
  split
  · exact ⟨by omega, by omega, fun h0 => by omega⟩
  · refine ⟨c.1, c.2.1 b.2.1, fun h0 => ?_⟩
    have := b.2.2 (by omega)
    exact ⟨⟨by omega, c.2.2 h0⟩, by omega⟩
set_option maxHeartbeats 1000000 in
theorem szPartS_calls {F : Nat → Prop} (v : Value) (l : List Pt) (left : Int) (w : World) (h : Rp.Rd part w F v l) (h0 : -1 ≤ left) (h1 : left ≤ 1048576) :
    Calls Try.prog 41 #[v, .int .i64 left] w fun e w' => e = .returned (.int .i64 (szPtl l left)) ∧ Below w.heap.size w w' := by
  obtain ⟨A, c, rfl, hlc, hcm, hrow⟩ := rd_part h
  unfold szPtl
  have b1 := szS_bd (n := l.length) h1
  obtain ⟨s1, hs1⟩ : ∃ s1, s1 = szS l.length left := ⟨_, rfl⟩
  rw [← hs1] at b1 ⊢
  have hs2 : left - l.length < 0 ∧ s1 = -1 ∨ 0 ≤ left - l.length ∧ s1 = left - l.length := by rw [hs1]; unfold szS; split <;> omega
  clear hs1
  rcases hs2 with ⟨hneg, rfl⟩ | ⟨hpos, hs⟩
  · go_enter Try.func41, Try.ntmps41
    go_wp2
    go_ret
    exact ⟨by simp, Below.refl _ _⟩
  · have HS := Lib.hid hs
    clear hs
    obtain ⟨q0, q1, _⟩ := b1
    have hs0 : 0 ≤ s1 := by have := HS.out; omega
    go_enter Try.func41, Try.ntmps41
    go_wp2_with fail
    rw [← HS.out]
    go_loopw [1, 5] (fun t i wr => ∃ (k : Nat) (s : Int), k ≤ l.length ∧ i = .int .i64 k ∧ t = .int .i64 s ∧ 0 ≤ s ∧ s ≤ 1048576 ∧ Hid (szPts (l.drop k) s = szPts l s1) ∧ Below w.heap.size w wr) (fun _ i _ => l.length - (intOf i).toNat)
    case atStart => exact ⟨0, s1, Nat.zero_le _, rfl, rfl, hs0, q0, Lib.hid rfl, Below.refl _ _⟩
    case round =>
      obtain ⟨k, s, hk, rfl, rfl, p0, p1, HH, HB⟩ := hrel
      by_cases hlt : k < l.length
      · rcases hrow with rfl | ⟨b, o, rfl, hb, hcell⟩
        · simp at hlt
        obtain ⟨vparams, vcode, vnext, vargs, c1, hparams, hcode, hnext, hargs⟩ := hcell k hlt
        replace c1 := partAt_below c1 HB
        replace hparams := hparams.below HB
        replace hcode := hcode.below HB
        replace hnext := hnext.below HB
        replace hargs := hargs.below HB
        clear hcell
        obtain ⟨r0, r1, r2, r3, r4, r5⟩ := c1
        have ⟨Aparams, kparams, yparams, _⟩ := hparams
        have ⟨Acode, kcode, ycode, _⟩ := hcode
        have ⟨Anext, knext, ynext, _⟩ := hnext
        have ⟨Aargs, kargs, yargs, _⟩ := hargs
        subst yparams ycode ynext yargs
        have hbd := szPt_bd (x := l[k]) p1
        obtain ⟨y, hy⟩ : ∃ y, y = szPt l[k] s := ⟨_, rfl⟩
        have HC := szPart_calls l[k] _ _ _ _ s wr hparams hcode hnext hargs (by omega) p1
        have HH2 : Hid (szPts (l.drop k) s = if y < 0 then -1 else szPts (l.drop (k + 1)) y) := Lib.hid (by rw [List.drop_eq_getElem_cons hlt, szPts, hy])
        rw [← hy] at HC hbd
        have HC := Lib.hid HC
        clear hy
        go_wp2_with (go_at_call 70; refine HC.out.mono ?_; rintro e w1 ⟨rfl, hb1⟩)
        · go_ret
          refine ⟨ret_int ?_, below_then HB hb1⟩
          try rw [if_neg (show ¬ s1 < 0 by omega)]
          rw [← HH.out, HH2.out, if_pos (by omega)]
        · go_roundw
          case rel => exact ⟨k + 1, y, by omega, by go_num, rfl, by omega, hbd.1, Lib.hid (by rw [← HH.out, HH2.out, if_neg (by omega)]), below_then HB hb1⟩
          case measure => simp [intOf]; omega
      · obtain rfl : k = l.length := by omega
        go_wp2
        go_ret
        refine ⟨ret_int ?_, HB⟩
        try rw [if_neg (show ¬ s1 < 0 by omega)]
        rw [← HH.out, List.drop_length, szPts]
end Go.Proofs.Ytmcnoeinjocimaa.L

set_option linter.unusedVariables false
set_option linter.unusedSimpArgs false
namespace Go.Proofs.Ytmcnoeinjocimaa.L
open Go.RowKit
def szSa (x : Sa) (left : Int) : Int := szPtl x.parts left
theorem szSa_steps (x : Sa) (left : Int) (h : left ≤ 1048576) : ∃ s0 : Int, szSa x left = s0 ∧ s0 = szPtl x.parts left ∧ (s0 ≤ 1048576 ∧ -1 ≤ s0) := by
  refine ⟨(szPtl x.parts left), rfl, rfl, ?_⟩
  have b0 := szPtl_bd (l := x.parts) h
  exact ⟨b0.1, b0.2.1⟩
theorem szSa_bd {x : Sa} {left : Int} (h : left ≤ 1048576) : szSa x left ≤ 1048576 ∧ -1 ≤ szSa x left ∧ (0 ≤ szSa x left → SaLim x ∧ 0 ≤ left) := by
  unfold szSa
  have b0 := szPtl_bd (l := x.parts) h
  generalize szPtl x.parts left = r0 at *
  refine ⟨by (repeat' split) <;> omega, by (repeat' split) <;> omega, fun h0 => ?_⟩
  have f0 := b0.2.2 (by omega)
  exact ⟨⟨f0.1.1, f0.1.2⟩, by omega⟩
set_option maxHeartbeats 1000000 in
theorem szSsa_calls {F : Nat → Prop} (x : Sa) (vparts : Value) (left : Int) (w : World) (hparts : Rp.Rd part w F vparts x.parts) (h0 : -1 ≤ left) (h1 : left ≤ 1048576) :
    Calls Try.prog 12 #[saV x vparts, .int .i64 left] w fun e w' => e = .returned (.int .i64 (szSa x left)) ∧ Below w.heap.size w w' := by
  obtain ⟨s0, HS, e0, p0, q0⟩ := szSa_steps x left h1
  have H0 := fun W (hW : Below w.heap.size w W) => szPartS_calls vparts x.parts left W (hparts.below hW) h0 h1
  rw [← e0] at H0
  have H0 := Lib.hid H0
  clear e0
  have HS := Lib.hid HS
  have ⟨Aparts, kparts, yparts, _⟩ := hparts
  subst yparts
  unfold saV
  go_enter Try.func12, Try.ntmps12
  go_wp2_with fail
  have HB : Below w.heap.size w (w.alloc (.cells #[.slice Aparts x.parts.length kparts, .int .i64 x.values] 24)) := below_new _
  have b1 : (w.alloc (.cells #[.slice Aparts x.parts.length kparts, .int .i64 x.values] 24)).heap[w.heap.size]? = _ := heap_alloc_new _ _
  refine (H0.out _ HB).mono ?_
  rintro e w0 ⟨rfl, hb⟩
  replace b1 := blk_below b1 hb
  replace HB := below_then HB hb
  clear hb
  obtain ⟨c1, f1⟩ := cell_of_block b1
  by_cases n0 : s0 < 0
  all_goals
    go_wp2
    go_ret
    refine ⟨ret_int ?_, HB⟩
    rw [HS.out]
    try ((repeat' split) <;> omega)
end Go.Proofs.Ytmcnoeinjocimaa.L
