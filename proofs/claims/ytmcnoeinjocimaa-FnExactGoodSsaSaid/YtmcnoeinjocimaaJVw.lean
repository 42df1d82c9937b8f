/- Vw1 Vw2: joined. -/
import Derived.Test.YtmcnoeinjocimaaIm5
import Derived.Test.YtmcnoeinjocimaaIm6
import Derived.Test.YtmcnoeinjocimaaIm2
import Derived.Test.YtmcnoeinjocimaaIm3
import Derived.Test.YtmcnoeinjocimaaRp1
import Derived.Test.YtmcnoeinjocimaaCn2
import Derived.Test.YtmcnoeinjocimaaJSg
import Derived.Deep.CutRange
set_option linter.unusedVariables false
set_option linter.unusedSimpArgs false
namespace Go.Proofs.Ytmcnoeinjocimaa.L
open Go.RowKit
theorem Ow.int_own {ap : Bool} {e g n c : Nat} {w : World} {F : Nat → Prop} {l : List Int} (h : Ow ap e Rp.int w F (.slice (some ⟨g, 0, none⟩) n c) l) : Ow true e Rp.int w (fun q => q = g) (.slice (some ⟨g, 0, none⟩) n c) l := by
  obtain ⟨φ, xs, h1, h2, h3, h4, h5⟩ := h
  exact ⟨fun _ _ => False, xs, h1, fun k hk => by simp [Value.ownBlock] at hk; exact hk.symm, fun _ _ h => h.elim, fun _ _ _ _ h => h.elim, fun i x hx => h5 i x hx⟩
theorem Ow.some_form {α : Type} {r : Rp α} {ap : Bool} {e : Nat} {w : World} {F : Nat → Prop} {v : Value} {l : List α} (h : Ow ap e r w F v l) (hl : 0 < l.length) : ∃ g c, v = .slice (some ⟨g, 0, none⟩) l.length c ∧ F g ∧ g < w.heap.size := by
  have hb := h.bound
  obtain ⟨φ, xs, ⟨_, h1⟩, h2, _⟩ := hb
  rcases h1 with ⟨rfl, hn⟩ | ⟨g, cap, cur, rfl, _, _, hc, hm, _⟩
  · omega
  · exact ⟨g, cap, rfl, h2 g (by simp [Value.ownBlock])⟩
theorem cell_new0 {w : World} {cs : Array Value} {t g : Nat} {u : Value} (hg : g = w.heap.size) (hu : cs[0]? = some u) : (w.alloc (.cells cs t)).cell? ⟨g, 0, none⟩ = some u := by
  subst hg
  exact ((cell_of_block (heap_alloc_new w (.cells cs t))).1 0).trans hu
theorem below_al {w w1 : World} {o : Obj} (h : Below w.heap.size w w1) : Below w.heap.size w (w1.alloc o) := h.alloc h.size o
theorem hsz (w : World) (o : Obj) : (w.alloc o).heap.size = w.heap.size + 1 := by simp
theorem Lib_hsd (w : World) : w.drew.heap.size = w.heap.size := rfl
theorem cell_al {w : World} {o : Obj} {a : Addr} {v : Value} (h : w.cell? a = some v) : (w.alloc o).cell? a = some v := cell_below (below_new _) h
theorem cell_dr {w : World} {a : Addr} {v : Value} (h : w.cell? a = some v) : w.drew.cell? a = some v := h
theorem blk_new0 {w : World} {o : Obj} {g : Nat} (hg : g = w.heap.size) : (w.alloc o).heap[g]? = some o := by
  subst hg
  exact heap_alloc_new w o
theorem blk_al {w : World} {o o2 : Obj} {g : Nat} (h : w.heap[g]? = some o) : (w.alloc o2).heap[g]? = some o := blk_below h (below_new _)
theorem blk_dr {w : World} {o : Obj} {g : Nat} (h : w.heap[g]? = some o) : w.drew.heap[g]? = some o := h
theorem ow_zero {w : World} {g N : Nat} (h : w.heap[g]? = some (.cells (madeCells #[.int .i64 0] N) 3 (0, 0))) (hN : N ≤ 1000000000) : Ow true 3 Rp.int w (fun q => q = g) (.slice (some ⟨g, 0, none⟩) N N) (List.replicate N 0) := by
  have := ow_of_ints (l := List.replicate N 0) h (by rw [toList_madeCells_one, List.map_replicate]) (by rw [List.length_replicate]; exact hN)
  rw [List.length_replicate] at this
  exact this
def partsI (s : Sa) : Int → List Pt → List Int → List Int → Option (List Int × List Int)
  | _, [], D, T => some (D, T)
  | k, p :: t, D, T => (partI s k p D T).bind (fun r => partsI s (k + 1) t r.1 r.2)
def nexts (s : Sa) : List (List Int) := s.parts.map (fun p : Pt => p.next)
structure GoodV (s : Sa) (D T : List Int) (M : List (List Bool)) : Prop where
  n1 : 1 ≤ s.parts.length
  n2 : s.parts.length ≤ 11
  v1 : 12 ≤ s.values
  v2 : s.values ≤ 250
  ps : partsI s 0 s.parts (List.replicate s.values.toNat (-1)) (List.replicate s.values.toNat 0) = some (D, T)
  all : ∀ x : Nat, x < s.parts.length → Rch (nexts s) (fun x => x ∉ ([] : List Int)) 0 x
  len : M.length = s.parts.length
  row : ∀ (b : Nat) (hb : b < M.length), M[b].length = s.parts.length
  mt : ∀ b x : Nat, Mt M b x ↔ Dom (nexts s) b x
  us : ∀ (k : Nat) (hk : k < s.parts.length), useB (fun i v => thereI s.values D T M k i v) s.parts[k] = true
theorem flat_le (m : Nat) : ∀ (l : List (List Int)), (∀ a ∈ l, a.length ≤ m) → l.flatten.length ≤ l.length * m
  | [], _ => by simp
  | a :: t, h => by
    have h1 := flat_le m t (fun x hx => h x (List.mem_cons_of_mem _ hx))
    have h2 := h a List.mem_cons_self
    rw [List.flatten_cons, List.length_append, List.length_cons, Nat.add_mul, Nat.one_mul]
    omega
theorem args_len {s : Sa} {p : Pt} (h : staticI s p = true) : p.args.length ≤ 6 := by
  unfold staticI at h
  simp only [Bool.and_eq_true] at h
  have ha := h.2
  have hg := h.1.1.2
  unfold argsS at ha
  split at ha
  · revert ha
    match p.args with
    | [] => intro; simp
    | [_] => intro; simp
    | _ :: _ :: _ => intro ha; cases ha
  · have hl := fitS_len _ _ _ ha
    unfold goB inB at hg
    simp only [Bool.and_eq_true] at hg
    have hg := hg.2
    split at hg
    · simp at hg; omega
    · split at hg
      · simp at hg; omega
      · split at hg
        · simp at hg; omega
        · simp at hg
          have := hg.2
          rw [this] at hl
          simp at hl
          omega
inductive ViewRes (F : Nat → Prop) (s : Sa) (vparts : Value) (w : World) (e : Ending) (w' : World) : Prop where
  | no (he : e = .returned (.pointer none)) (hn : Hid (¬ ∃ D T M, GoodV s D T M)) (hb : Below w.heap.size w w') : ViewRes F s vparts w e w'
  | yes (vb : Nat) (D T : List Int) (M : List (List Bool)) (vn vd vD vT : Value) (he : e = .returned (.pointer (some ⟨vb, 0, none⟩))) (hv : w'.heap[vb]? = some (viewC vparts s.values vn vd vD vT)) (hz : w.heap.size < vb)
      (hD : Rp.Rd Rp.int w' (fun q => w.heap.size ≤ q) vD D) (hT : Rp.Rd Rp.int w' (fun q => w.heap.size ≤ q) vT T) (hM : Rp.Rd (Rp.sl Rp.bool) w' (fun q => w.heap.size ≤ q) vd M)
      (hN : Rp.Rd (Rp.sl Rp.int) w' (fun q => F q ∧ q < w.heap.size ∨ w.heap.size ≤ q) vn (nexts s)) (hg : Hid (GoodV s D T M)) (hb : Below w.heap.size w w') : ViewRes F s vparts w e w'
theorem defI_len {V k : Int} : ∀ (l : List (Int × Int)) (D T D' T' : List Int), defI V k D T l = some (D', T') → D'.length = D.length ∧ T'.length = T.length
  | [], D, T, D', T', h => by cases h; exact ⟨rfl, rfl⟩
  | (v, a) :: t, D, T, D', T', h => by
    rw [defI] at h
    split at h
    · have := defI_len t _ _ _ _ h
      simpa using this
    · cases h
theorem defI_lt {V k n : Int} (hk : k < n) : ∀ (l : List (Int × Int)) (D T D' T' : List Int), defI V k D T l = some (D', T') → (∀ x ∈ D, x < n) → ∀ x ∈ D', x < n
  | [], D, T, D', T', h, hx => by cases h; exact hx
  | (v, a) :: t, D, T, D', T', h, hx => by
    rw [defI] at h
    split at h
    · refine defI_lt hk t _ _ _ _ h (fun x hx' => ?_)
      rcases List.mem_or_eq_of_mem_set hx' with h1 | rfl
      · exact hx x h1
      · exact hk
    · cases h
theorem partI_some {s : Sa} {k : Int} {p : Pt} {D T D' T' : List Int} (h : partI s k p D T = some (D', T')) : staticI s p = true ∧ (0 < k ∨ p.params = []) ∧ defI s.values k D T (itemsI p) = some (D', T') := by
  unfold partI at h
  split at h
  · rename_i h1
    simp only [Bool.and_eq_true, Bool.or_eq_true, decide_eq_true_eq, List.isEmpty_iff] at h1
    exact ⟨h1.1, h1.2, h⟩
  · cases h
theorem static_next {s : Sa} {p : Pt} (h : staticI s p = true) : ∀ x ∈ p.next, 0 ≤ x ∧ x < s.parts.length := fun x hx => by
  unfold staticI at h
  simp only [Bool.and_eq_true] at h
  have h2 := h.1.1.2
  unfold goB at h2
  simp only [Bool.and_eq_true, Bool.not_eq_true'] at h2
  have h2 := h2.1.2
  rw [List.any_eq_false] at h2
  have := h2 x hx
  unfold inB at this
  simp at this
  omega
theorem partsI_static {s : Sa} : ∀ (l : List Pt) (k : Int) (D T D' T' : List Int), partsI s k l D T = some (D', T') → ∀ p ∈ l, staticI s p = true
  | [], _, _, _, _, _, _, p, hp => by cases hp
  | q :: t, k, D, T, D', T', h, p, hp => by
    rw [partsI] at h
    obtain ⟨r, h1, h2⟩ := Option.bind_eq_some_iff.1 h
    rcases List.mem_cons.1 hp with rfl | hp
    · exact (partI_some (D' := r.1) (T' := r.2) h1).1
    · exact partsI_static t _ _ _ _ _ h2 p hp
theorem nexts_len (s : Sa) : (nexts s).length = s.parts.length := by unfold nexts; rw [List.length_map]
theorem nexts_inR {s : Sa} (h : ∀ p ∈ s.parts, staticI s p = true) : InR (nexts s) := fun l hl x hx => by
  obtain ⟨p, hp, rfl⟩ := List.mem_map.1 hl
  rw [nexts_len]
  exact static_next (h p hp) x hx
theorem getD_mt (M : List (List Bool)) (b x : Nat) : (M.getD b []).getD x false = true ↔ Mt M b x := by
  unfold Mt
  rw [List.getD_eq_getElem?_getD, List.getD_eq_getElem?_getD]
  cases h : M[b]? with
  | none => simp
  | some r => 
    simp
    cases h2 : r[x]? <;> simp
theorem there_congr {M M' : List (List Bool)} (h : ∀ b x : Nat, Mt M b x ↔ Mt M' b x) (V : Int) (D T : List Int) (pt i k : Int) : thereI V D T M pt i k = thereI V D T M' pt i k := by
  unfold thereI
  have : (M.getD pt.toNat []).getD (D.getD k.toNat 0).toNat false = (M'.getD pt.toNat []).getD (D.getD k.toNat 0).toNat false := by
    rw [Bool.eq_iff_iff, getD_mt, getD_mt]; exact h _ _
  rw [this]
def View0 (F : Nat → Prop) (s : Sa) (vparts : Value) (w : World) (N : Nat) (v : Value) (wx : World) : Prop :=
  ∃ (vb gd cd ga ca : Nat) (vn : Value), v = .pointer (some ⟨vb, 0, none⟩) ∧ wx.heap[vb]? = some (viewC vparts s.values vn (.slice none 0 0) (.slice (some ⟨gd, 0, none⟩) N cd) (.slice (some ⟨ga, 0, none⟩) N ca)) ∧
    gd ≠ ga ∧ vb ≠ gd ∧ vb ≠ ga ∧ w.heap.size < vb ∧ w.heap.size < gd ∧ w.heap.size < ga ∧ Ow true 3 Rp.int wx (fun q => q = gd) (.slice (some ⟨gd, 0, none⟩) N cd) (List.replicate N (-1)) ∧
    Ow true 3 Rp.int wx (fun q => q = ga) (.slice (some ⟨ga, 0, none⟩) N ca) (List.replicate N 0) ∧ Rp.Rd (Rp.sl Rp.int) wx (fun q => (F q ∧ q < w.heap.size) ∨ (w.heap.size < q ∧ q ≠ gd ∧ q ≠ ga ∧ q ≠ vb)) vn (s.parts.map (fun p : Pt => p.next)) ∧ Below w.heap.size w wx
set_option maxRecDepth 100000 in
set_option maxHeartbeats 4000000 in
theorem viewOf_calls {F : Nat → Prop} (s : Sa) (vparts : Value) (w : World) (hs : Rp.Rd part w F vparts s.parts) (hx1 : s.parts.length ≤ 1048576) (hx2 : ∀ p ∈ s.parts, PtLim p) :
    Calls Try.prog 52 #[saV s vparts] w (ViewRes F s vparts w) := by
  replace hs := hs.bound
  have HS := hs
  obtain ⟨A, c, rfl, hlc, hcm, hrow⟩ := rd_part hs
  have HCn := fun W (hW : Below w.heap.size w W) => nextsOf_calls s _ W (HS.below hW) hx1
  unfold saV at HCn ⊢
  have HR1 : Hid (inB s.parts.length 1 11 = true ↔ 1 ≤ s.parts.length ∧ s.parts.length ≤ 11) := Lib.hid (by unfold inB; simp; omega)
  have HR2 : Hid (inB s.values 12 250 = true ↔ 12 ≤ s.values ∧ s.values ≤ 250) := Lib.hid (by unfold inB; simp)
  have HC1 := Lib.hid (fun W => within_calls s.parts.length 1 11 W)
  have HC2 := Lib.hid (fun W => within_calls s.values 12 250 W)
  generalize inB s.parts.length 1 11 = r1 at *
  generalize inB s.values 12 250 = r2 at *
  have hB0 : Below w.heap.size w (w.alloc (.cells #[.slice A s.parts.length c, .int .i64 s.values] 29)) := below_new _
  have b0 := heap_alloc_new w (.cells #[.slice A s.parts.length c, .int .i64 s.values] 29)
  have hz0 : w.heap.size < (w.alloc (.cells #[.slice A s.parts.length c, .int .i64 s.values] 29)).heap.size := blk_lt b0
  replace HCn := Lib.hid HCn
  cases r1
  · have HN : Hid (¬ ∃ D T M, GoodV s D T M) := Lib.hid (fun ⟨_, _, _, h⟩ => by cases HR1.out.2 ⟨h.n1, h.n2⟩)
    clear HCn HC2 HR1 HR2
    go_enter Try.func52, Try.ntmps52
    go_wp2_with (go_at_call 77; refine (HC1.out _).mono ?_; rintro e w' ⟨rfl, rfl⟩)
    go_ret
    exact .no rfl HN hB0
  cases r2
  · have HN : Hid (¬ ∃ D T M, GoodV s D T M) := Lib.hid (fun ⟨_, _, _, h⟩ => by cases HR2.out.2 ⟨h.v1, h.v2⟩)
    clear HCn HR1 HR2
    go_enter Try.func52, Try.ntmps52
    go_wp2_with fail
    refine (HC1.out _).mono ?_
    rintro e w1 ⟨rfl, rfl⟩
    go_wp2_with fail
    refine (HC2.out _).mono ?_
    rintro e w1 ⟨rfl, rfl⟩
    go_wp2
    go_ret
    exact .no rfl HN hB0
  obtain ⟨hn1, hn2⟩ := HR1.out.1 rfl
  obtain ⟨hv1, hv2⟩ := HR2.out.1 rfl
  clear HR1 HR2
  obtain ⟨N, hN⟩ := Int.eq_ofNat_of_zero_le (by omega : 0 ≤ s.values)
  have hmk := mk_all Try.underlying35 infoInt N (by omega) (by omega)
  rw [← hN] at hmk
  replace hN := Lib.hid hN
  go_enter Try.func52, Try.ntmps52
  go_wp2_with fail
  refine (HC1.out _).mono ?_
  rintro e w1 ⟨rfl, rfl⟩
  go_wp2_with fail
  refine (HC2.out _).mono ?_
  rintro e w1 ⟨rfl, rfl⟩
  generalize w.alloc (.cells #[.slice A s.parts.length c, .int .i64 s.values] 29) = W0 at *
  obtain ⟨x0, _⟩ := cell_of_block b0
  have x00 : W0.cell? ⟨w.heap.size, 0, none⟩ = some (.slice A s.parts.length c) := (x0 0).trans rfl
  have x01 : W0.cell? ⟨w.heap.size, 1, none⟩ = some (.int .i64 s.values) := (x0 1).trans rfl
  have HCr : ∀ gx W (h : W.cell? ⟨gx, 0, none⟩ = some (.int .i64 (-1))), Calls Try.prog 79 #[.slice (some ⟨gx, 0, none⟩) 1 1, .int .i64 s.values] W fun e w' => ∃ gd cd, e = .returned (.slice (some ⟨gd, 0, none⟩) N cd) ∧ W.heap.size ≤ gd ∧ gd < w'.heap.size ∧ Ow true 3 Rp.int w' (fun q => q = gd) (.slice (some ⟨gd, 0, none⟩) N cd) (List.replicate N (-1)) ∧ Below W.heap.size W w' := fun gx W h => by
    have h0 := repeat_calls (-1) gx N W h (by have := hN.out; omega) (by have := hN.out; omega)
    rw [← hN.out] at h0
    refine h0.mono ?_
    rintro e w' ⟨v', rfl, hO, hb⟩
    obtain ⟨gd, cd, rfl, h1, h2⟩ := hO.some_form (by rw [List.length_replicate]; have := hN.out; omega)
    rw [List.length_replicate] at hO ⊢
    exact ⟨gd, cd, rfl, h1, h2, hO.int_own, hb⟩
  replace HCr := Lib.hid HCr
  have hmn : Builtin.zeroCells = Builtin.zeroCells := rfl
  go_wp2_with fail
  go_cut [3] from 17 to 28 (fun v wx => View0 F s (.slice A s.parts.length c) w N v wx ∧ wx.heap[w.heap.size]? = some (.cells #[.slice A s.parts.length c, .int .i64 s.values] 29 (0, 0)))
  case first =>
    go_region_held3 (fun w' => w'.cell? ⟨w.heap.size, 0, none⟩ = some (.slice A s.parts.length c) ∧ w'.cell? ⟨w.heap.size, 1, none⟩ = some (.int .i64 s.values))
      (first | go_keep | (go_split_ands; refine ⟨?_, ?_⟩ <;> (repeat (first | assumption | ((with_reducible refine cell_new0 ?_ ?_); (first | with_reducible rfl | exact (hsz _ _).symm | (simp; done) | (simp; omega)); rfl) | with_reducible refine cell_al ?_ | with_reducible refine cell_dr ?_ | refine cell_below (by assumption) ?_))))
      ((first | (go_at_call 78; refine (HCn.out _ (by repeat (first | assumption | with_reducible exact Below.refl _ _ | with_reducible refine below_drew ?_ | with_reducible refine below_drewN ?_ _ | with_reducible refine below_al ?_ | refine below_then ?_ (by assumption)))).mono ?_; rintro e wn ⟨vn, rfl, hvn, hbn⟩; obtain ⟨An, kn, rfl, _⟩ := id hvn) | (go_at_call 79; refine (HCr.out _ _ (by repeat (first | assumption | ((with_reducible refine cell_new0 ?_ ?_); (first | with_reducible rfl | exact (hsz _ _).symm | (simp; done) | (simp; omega)); rfl) | with_reducible refine cell_al ?_ | with_reducible refine cell_dr ?_ | refine cell_below (by assumption) ?_))).mono ?_; rintro e wd ⟨gd, cd, rfl, hgd1, hgd2, hgd, hbd⟩)))
    all_goals
      go_wp2_with fail
      go_meet
    all_goals
      rw [List.length_map] at hvn
      refine ⟨⟨_, gd, cd, _, _, _, rfl, (blk_new0 (by first | with_reducible rfl | exact (hsz _ _).symm | (simp; done) | (simp; omega))).trans rfl, ?_, ?_, ?_, ?_, ?_, ?_, hgd.below (by repeat (first | assumption | with_reducible exact Below.refl _ _ | with_reducible refine below_drew ?_ | with_reducible refine below_drewN ?_ _ | with_reducible refine below_al ?_ | refine below_then ?_ (by assumption))), ow_zero (by repeat (first | assumption | ((with_reducible refine blk_new0 ?_); (first | with_reducible rfl | exact (hsz _ _).symm | (simp; done) | (simp; omega))) | with_reducible refine blk_al ?_ | with_reducible refine blk_dr ?_ | refine blk_below ?_ (by assumption))) (by have := hN.out; omega), (hvn.bound.below (by repeat (first | assumption | with_reducible exact Below.refl _ _ | with_reducible refine below_drew ?_ | with_reducible refine below_drewN ?_ _ | with_reducible refine below_al ?_ | refine below_then ?_ (by assumption)))).mono ?_, by repeat (first | assumption | with_reducible exact Below.refl _ _ | with_reducible refine below_drew ?_ | with_reducible refine below_drewN ?_ _ | with_reducible refine below_al ?_ | refine below_then ?_ (by assumption))⟩, by repeat (first | assumption | ((with_reducible refine blk_new0 ?_); (first | with_reducible rfl | exact (hsz _ _).symm | (simp; done) | (simp; omega))) | with_reducible refine blk_al ?_ | with_reducible refine blk_dr ?_ | refine blk_below ?_ (by assumption))⟩
    all_goals
      have hsn := hbn.size
      have hsd := hbd.size
      simp only [hsz, Lib_hsd] at hsn hsd hgd1 hgd2 ⊢
    all_goals first
      | omega
      | (rintro q ⟨hq | hq, hq2⟩
         · exact .inl hq.1
         · right
           try simp only [hsz, Lib_hsd] at hq hq2
           omega)
  case rest =>
    obtain ⟨⟨vb, gd, cd, ga, ca, vn, rfl, hv, hdt, hvd, hva, hz1, hz2, hz3, hD, hT, hVn, hB⟩, b1⟩ := hcut
    have hFF : ∀ q, F q ∧ q < w.heap.size → q ≠ gd ∧ q ≠ ga := fun q hq => by have := hq.2; omega
    have hFA : ∀ q, F q ∧ q < w.heap.size → ¬ (q = gd ∨ q = ga) := fun q hq => by have := hq.2; omega
    have hPN : ∃ PR, Hid (partsI s 0 s.parts (List.replicate s.values.toNat (-1)) (List.replicate s.values.toNat 0) = PR) := ⟨_, Lib.hid rfl⟩
    obtain ⟨PR, HPR⟩ := hPN
    have hNN := hN.out
    have HNo : Hid (∀ D T, PR = none ∨ (PR = some (D, T) → ¬ ∃ M, GoodV s D T M) → (PR = none ∨ PR = some (D, T)) → ¬ ∃ D T M, GoodV s D T M) := Lib.hid (by
      rintro D T h1 h2 ⟨D', T', M, hg⟩
      have h3 := hg.ps
      rw [HPR.out] at h3
      rcases h2 with h2 | h2
      · rw [h2] at h3; cases h3
      · rw [h2] at h3; cases h3
        rcases h1 with h1 | h1
        · rw [h1] at h2; cases h2
        · exact h1 h2 ⟨M, hg⟩)
    have HJ0 : Hid ((List.replicate N (-1 : Int)).length = N ∧ (List.replicate N (0 : Int)).length = N ∧ (∀ x ∈ List.replicate N (-1 : Int), x < s.parts.length) ∧ partsI s (0 : Nat) (s.parts.drop 0) (List.replicate N (-1)) (List.replicate N 0) = PR) := Lib.hid ⟨List.length_replicate, List.length_replicate, fun x hx => by rw [List.eq_of_mem_replicate hx]; omega, by rw [← HPR.out, hN.out]; rfl⟩
    generalize List.replicate N (-1 : Int) = D0 at *
    generalize List.replicate N (0 : Int) = T0 at *
    obtain ⟨x1, _⟩ := cell_of_block b1
    have x10 : wc.cell? ⟨w.heap.size, 0, none⟩ = some (.slice A s.parts.length c) := (x1 0).trans rfl
    have HB1 := Lib.hid b1
    clear x1 b1 hNN HCn HC1 HC2 HCr hmk hmn x00 x01 x0 hrow
    go_wp2
    go_loopw [32] (fun i wr => ∃ (k : Nat) (D T : List Int), k ≤ s.parts.length ∧ i = .int .i64 k ∧ Ow true 3 Rp.int wr (fun q => q = gd) (.slice (some ⟨gd, 0, none⟩) N cd) D ∧ Ow true 3 Rp.int wr (fun q => q = ga) (.slice (some ⟨ga, 0, none⟩) N ca) T ∧ Chg (fun q => q = gd ∨ q = ga) wc wr ∧ wr.heap[vb]? = some (viewC (.slice A s.parts.length c) s.values vn (.slice none 0 0) (.slice (some ⟨gd, 0, none⟩) N cd) (.slice (some ⟨ga, 0, none⟩) N ca)) ∧ Hid (D.length = N ∧ T.length = N ∧ (∀ x ∈ D, x < s.parts.length) ∧ partsI s k (s.parts.drop k) D T = PR)) (fun i _ => s.parts.length - (intOf i).toNat)
    case atStart => exact ⟨0, D0, T0, Nat.zero_le _, rfl, hD, hT, Chg.refl _ _, hv, HJ0⟩
    case round =>
      clear hD hT hv HJ0 x10
      obtain ⟨k, D, T, hk, rfl, HD, HT, HC, hv, HJ⟩ := hrel
      rename World => wr
      have b1 := HC.blk HB1.out (by omega)
      obtain ⟨x1, _⟩ := cell_of_block b1
      have x10 : wr.cell? ⟨w.heap.size, 0, none⟩ = some (.slice A s.parts.length c) := (x1 0).trans rfl
      clear x1 b1
      by_cases hlt : k < s.parts.length
      · have HSr := ((HS.below hB).move (HC.same hFA))
        have HCp := Lib.hid (partOK_calls s D T k N vb gd cd ga ca _ vn _ wr hv HSr hFF HD HT hdt ⟨hvd, hva⟩ HJ.out.1 HJ.out.2.1 hN.out.symm hv1 hv2 hlt hn2 (hx2 _ (List.getElem_mem hlt)))
        have HX : Hid (partsI s k (s.parts.drop k) D T = (partI s k s.parts[k] D T).bind (fun r => partsI s (k + 1 : Nat) (s.parts.drop (k + 1)) r.1 r.2)) := Lib.hid (by rw [List.drop_eq_getElem_cons hlt]; rfl)
        have i0 : (0 : Int) ≤ (k : Int) := Int.natCast_nonneg _
        have i1 : (k : Int) < (s.parts.length : Int) := by omega
        go_wp2_with fail
        refine HCp.out.mono ?_
        rintro e w1 (⟨rfl, hn, hc⟩ | ⟨D2, T2, rfl, hy, hD2, hT2, hc2⟩)
        · have HN : Hid (¬ ∃ D T M, GoodV s D T M) := Lib.hid (HNo.out D T (.inl (by rw [← HJ.out.2.2.2, HX.out, hn.out]; rfl)) (.inl (by rw [← HJ.out.2.2.2, HX.out, hn.out]; rfl)))
          have hBe := (HC.trans hc).to_below hB hB.size (fun q hq => by omega)
          clear HCp HX hn HJ HNo
          go_wp2
          go_ret
          exact .no rfl HN hBe
        · have HJ2 : Hid (D2.length = N ∧ T2.length = N ∧ (∀ x ∈ D2, x < s.parts.length) ∧ partsI s (k + 1 : Nat) (s.parts.drop (k + 1)) D2 T2 = PR) := Lib.hid ⟨hy.out.2.1, hy.out.2.2, defI_lt i1 _ _ _ _ _ (partI_some hy.out.1).2.2 HJ.out.2.2.1, by rw [← HJ.out.2.2.2, HX.out, hy.out.1]; rfl⟩
          have hv2' := hc2.blk hv (by omega)
          clear HCp HX hy HJ
          go_wp2
          go_roundw
          case rel => exact ⟨k + 1, D2, T2, by omega, by go_num, hD2, hT2, HC.trans hc2, hv2', HJ2⟩
          case measure => simp [intOf]; omega
      · obtain rfl : k = s.parts.length := by omega
        have HPS : Hid (PR = some (D, T)) := Lib.hid (by rw [← HJ.out.2.2.2, List.drop_length]; rfl)
        have HLD : Hid (D.length = N ∧ T.length = N ∧ ∀ x ∈ D, x < s.parts.length) := Lib.hid ⟨HJ.out.1, HJ.out.2.1, HJ.out.2.2.1⟩
        have HST := partsI_static s.parts 0 _ _ D T (HPR.out.trans HPS.out)
        have HIR := nexts_inR HST
        have hVr := hVn.move (HC.same (fun q hq => by rcases hq with hq | hq; have := hq.2; omega; omega))
        have hnl := nexts_len s
        have HCd := Lib.hid (dominators_calls (nexts s) vn wr hVr (by omega) (by omega) HIR)
        obtain ⟨v0, v1, v2, v3, v4, v5⟩ := view_cells hv
        clear HJ hlt hk
        go_wp2_with fail
        refine HCd.out.mono ?_
        rintro e w1 ⟨vM, M, rfl, HM, hbM, HMM⟩
        obtain ⟨AM, kM, rfl, _, _⟩ := HM.form
        have hvw := blk_below hv hbM
        obtain ⟨y1, y2⟩ := cell_of_block hvw
        have y13 := y2 3
        have hvlt := blk_lt hv
        have hbz := hbM.size
        have hBr : Below w.heap.size w wr := HC.to_below hB hB.size (fun q hq => by omega)
        have hB1 : Below w.heap.size w w1 := below_then hBr hbM
        obtain ⟨z0, z1, z2, z3, z4, z5⟩ := view_cells hvw
        clear v0 v1 v2 v3 v4 v5
        go_wp2_with fail
        have hv3 : (w1.setCell ⟨vb, 3, none⟩ (.slice AM M.length kM)).heap[vb]? = some (viewC (.slice A s.parts.length c) s.values vn (.slice AM M.length kM) (.slice (some ⟨gd, 0, none⟩) N cd) (.slice (some ⟨ga, 0, none⟩) N ca)) := blk_put hvw 3 _
        have hB2 : Below w.heap.size w (w1.setCell ⟨vb, 3, none⟩ (.slice AM M.length kM)) := hB1.setCell (by show _ ≤ vb; omega) _
        have hD2 := (HD.below hbM).set_other (b := vb) (o := 3) (u := .slice AM M.length kM) (by omega)
        have hT2 := (HT.below hbM).set_other (b := vb) (o := 3) (u := .slice AM M.length kM) (by omega)
        have hM2 := (((Rp.Le.ow (Rp.Le.refl _)).rd HM.rd) : Rp.Rd (Rp.sl Rp.bool) w1 _ _ M).set_other (b := vb) (o := 3) (u := .slice AM M.length kM) (by omega)
        have hV2 := (hVr.below hbM).set_other (b := vb) (o := 3) (u := .slice AM M.length kM) (by omega)
        have hb1x := blk_set (a := ⟨vb, 3, none⟩) (blk_below (HC.blk HB1.out (by omega)) hbM) (by show w.heap.size ≠ vb; omega) (.slice AM M.length kM)
        generalize w1.setCell ⟨vb, 3, none⟩ (.slice AM M.length kM) = w2 at *
        refine (reach_calls (nexts s) vn (.slice none 0 0) 0 [] w2 hV2 (Rp.Rd.nil Rp.int w2 (fun _ => False)) (by omega) (by omega) (by omega) HIR).mono ?_
        rintro e w3 ⟨vB, B, rfl, HBo, hb3, HRB⟩
        have hB3 : Below w.heap.size w w3 := below_then hB2 hb3
        have HAL : Hid (B.contains false = false ↔ ∀ x : Nat, x < s.parts.length → Rch (nexts s) (fun x => x ∉ ([] : List Int)) 0 x) := Lib.hid (by
          have hh := HRB.out
          constructor
          · intro h x hx
            have hxl : x < B.length := by rw [hh.1, hnl]; exact hx
            have hne : B[x] = true := by
              cases hb : B[x]
              · have h1 : false ∈ B := hb ▸ List.getElem_mem hxl
                have h2 := List.contains_iff_mem.2 h1
                rw [h] at h2; cases h2
              · rfl
            exact (hh.2 x).1 ⟨x, rfl, by rw [List.getElem?_eq_getElem hxl, hne]⟩
          · intro h
            cases hc : B.contains false
            · rfl
            · obtain ⟨x, hx, he⟩ := List.getElem_of_mem (List.contains_iff_mem.1 hc)
              obtain ⟨m, hm, hmt⟩ := (hh.2 x).2 (h x (by rw [← hnl, ← hh.1]; exact hx))
              obtain rfl : x = m := by omega
              rw [List.getElem?_eq_getElem hx, he] at hmt; cases hmt)
        have HCb := Lib.hid (containsBool_calls vB B false w3 HBo.rd)
        have hv4 := blk_below hv3 hb3
        have hD4 := hD2.below hb3
        have hT4 := hT2.below hb3
        have hM4 := hM2.below hb3
        have hV4 := hV2.below hb3
        have hb14 := blk_below hb1x hb3
        clear HBo HRB hV2 hM2 hT2 hD2 hB2 hv3 y1 y2 y13 z0 z1 z2 z3 z4 z5 hvw HCd x10
        have HMR := HMM
        generalize B.contains false = rb at *
        go_wp2_with fail
        refine HCb.out.mono ?_
        rintro e w4 ⟨rfl, rfl⟩
        clear HCb
        cases rb
        rotate_left
        · have HN : Hid (¬ ∃ D T M, GoodV s D T M) := Lib.hid (fun ⟨_, _, _, h⟩ => by cases HAL.out.2 h.all)
          clear HAL HNo
          go_wp2
          go_ret
          exact .no rfl HN hB3
        have HALL : Hid (∀ x : Nat, x < s.parts.length → Rch (nexts s) (fun x => x ∉ ([] : List Int)) 0 x) := Lib.hid (HAL.out.1 rfl)
        clear HAL
        have HSA := Lib.hid HST
        clear HST
        have hbox4 := hb14
        obtain ⟨x1, _⟩ := cell_of_block hbox4
        have x10 : w4.cell? ⟨w.heap.size, 0, none⟩ = some (.slice A s.parts.length c) := (x1 0).trans rfl
        clear x1
        have HU0 : Hid (∀ (j : Nat) (hj : j < s.parts.length), j < 0 → useB (fun i v => thereI s.values D T M j i v) s.parts[j] = true) := Lib.hid (fun j _ h => absurd h (Nat.not_lt_zero _))
        go_wp2
        go_loopw [57] (fun i wr => ∃ k : Nat, k ≤ s.parts.length ∧ i = .int .i64 k ∧ Below w4.heap.size w4 wr ∧ Hid (∀ (j : Nat) (hj : j < s.parts.length), j < k → useB (fun i v => thereI s.values D T M j i v) s.parts[j] = true)) (fun i _ => s.parts.length - (intOf i).toNat)
        case atStart => exact ⟨0, Nat.zero_le _, rfl, Below.refl _ _, HU0⟩
        case round =>
          clear HU0 x10
          obtain ⟨k, hk, rfl, HBk, HK⟩ := hrel
          rename World => ws
          have hBs : Below w.heap.size w ws := below_then hB3 HBk
          have x10 : ws.cell? ⟨w.heap.size, 0, none⟩ = some (.slice A s.parts.length c) := ((cell_of_block (blk_below hbox4 HBk)).1 0).trans rfl
          by_cases hlt : k < s.parts.length
          · have hst := HSA.out _ (List.getElem_mem hlt)
            have hal := args_len hst
            have hlm := hx2 _ (List.getElem_mem hlt)
            have hfl := flat_le 1048576 _ hlm.2.2.2.2
            have HCu := Lib.hid (usesOK_calls s k vb _ vn _ _ _ D T M ws (blk_below hv4 HBk) (HS.below hBs) (hD4.rd.below HBk) (hT4.rd.below HBk) (hM4.below HBk) (by have := HLD.out.1; have := hN.out; omega) (by have := HLD.out.2.1; have := hN.out; omega) hv2 (by rw [HMM.out.1]; omega)
              (fun q hq h0 => by rw [HMM.out.2.1 k (by rw [HMM.out.1]; omega)]; have := HLD.out.2.2 _ (List.getElem_mem hq); omega) hlt hlm (by omega) (by omega))
            clear hal hfl
            have i0 : (0 : Int) ≤ (k : Int) := Int.natCast_nonneg _
            have i1 : (k : Int) < (s.parts.length : Int) := by omega
            generalize hub : useB (fun i v => thereI s.values D T M k i v) s.parts[k] = ub at HCu
            replace hub := Lib.hid hub
            go_wp2_with fail
            refine HCu.out.mono ?_
            rintro e w5 ⟨rfl, hb5⟩
            cases ub
            · have HN : Hid (¬ ∃ D T M, GoodV s D T M) := Lib.hid (HNo.out D T (.inr (fun _ ⟨M', hg⟩ => by
                have h1 := hg.us k hlt
                have h2 : (fun i v => thereI s.values D T M' k i v) = (fun i v => thereI s.values D T M k i v) := by
                  funext i v
                  exact there_congr (fun b x => (hg.mt b x).trans (HMM.out.2.2 b x).symm) _ _ _ _ _ _
                rw [h2, hub.out] at h1
                cases h1)) (.inr HPS.out))
              have hBe := below_then hBs hb5
              clear HCu HNo hub
              go_wp2
              go_ret
              exact .no rfl HN hBe
            · have HK2 : Hid (∀ (j : Nat) (hj : j < s.parts.length), j < k + 1 → useB (fun i v => thereI s.values D T M j i v) s.parts[j] = true) := Lib.hid (fun j hj hjk => by
                rcases Nat.lt_or_ge j k with h | h
                · exact HK.out j hj h
                · obtain rfl : j = k := by omega
                  exact hub.out)
              have hBk2 := below_then HBk hb5
              clear HCu hub HK
              go_wp2
              go_roundw
              case rel => exact ⟨k + 1, by omega, by go_num, hBk2, HK2⟩
              case measure => simp [intOf]; omega
          · obtain rfl : k = s.parts.length := by omega
            have HG : Hid (GoodV s D T M) := Lib.hid ⟨hn1, hn2, hv1, hv2, HPR.out.trans HPS.out, HALL.out, HMM.out.1.trans hnl, fun b hb => (HMM.out.2.1 b hb).trans hnl, HMM.out.2.2, fun j hj => HK.out j hj hj⟩
            have e1 := blk_below hv4 HBk
            have e2 := hD4.rd.below HBk
            have e3 := hT4.rd.below HBk
            have e4 := hM4.below HBk
            have e5 := hV4.below HBk
            clear HK HNo HSA hlt hk
            go_wp2
            go_ret
            exact .yes vb D T M vn _ _ _ rfl e1 hz1 (e2.mono (fun q hq => by omega)) (e3.mono (fun q hq => by omega)) (e4.mono (fun q hq => by have := hBr.size; omega)) (e5.mono (fun q hq => by rcases hq with hq | hq; exact .inl hq; right; omega)) HG hBs
end Go.Proofs.Ytmcnoeinjocimaa.L

set_option linter.unusedVariables false
set_option linter.unusedSimpArgs false
namespace Go.Proofs.Ytmcnoeinjocimaa.L
open Go.RowKit
/-- A Bool that says whether there is a view. -/
inductive GoodResI (s : Sa) (w : World) (e : Ending) (w' : World) : Prop where
  | mk (b : Bool) (he : e = .returned (.bool b)) (hg : Hid (b = true ↔ ∃ D T M, GoodV s D T M)) (hb : Below w.heap.size w w') : GoodResI s w e w'
theorem goodI_calls {F : Nat → Prop} (s : Sa) (vparts : Value) (w : World) (hs : Rp.Rd part w F vparts s.parts) (hx1 : s.parts.length ≤ 1048576) (hx2 : ∀ p ∈ s.parts, PtLim p) :
    Calls Try.prog 15 #[saV s vparts] w (GoodResI s w) := by
  obtain ⟨A, c, rfl, _, _, _⟩ := rd_part hs
  have HC := Lib.hid (fun W (hW : Below w.heap.size w W) => viewOf_calls s _ W (hs.below hW) hx1 hx2)
  unfold saV at HC ⊢
  have hB0 : Below w.heap.size w (w.alloc (.cells #[.slice A s.parts.length c, .int .i64 s.values] 29)) := below_new _
  go_enter Try.func15, Try.ntmps15
  go_wp2_with fail
  refine (HC.out _ hB0).mono ?_
  rintro e w1 (⟨rfl, hn, hb⟩ | ⟨vb, D, T, M, vn, vd, vD, vT, rfl, hv, hz, hD, hT, hM, hN, hg, hb⟩)
  · have HN : Hid (false = true ↔ ∃ D T M, GoodV s D T M) := Lib.hid ⟨fun h => Bool.noConfusion h, fun h => absurd h hn.out⟩
    have hb2 := below_then hB0 hb
    clear hn
    go_wp2
    go_ret
    exact .mk _ rfl HN hb2
  · have HN : Hid (true = true ↔ ∃ D T M, GoodV s D T M) := Lib.hid ⟨fun _ => ⟨D, T, M, hg.out⟩, fun _ => rfl⟩
    have hb2 := below_then hB0 hb
    clear hg
    go_wp2
    go_ret
    exact .mk _ rfl (Lib.hid ⟨fun _ => HN.out.1 trivial, fun _ => rfl⟩) hb2
end Go.Proofs.Ytmcnoeinjocimaa.L
