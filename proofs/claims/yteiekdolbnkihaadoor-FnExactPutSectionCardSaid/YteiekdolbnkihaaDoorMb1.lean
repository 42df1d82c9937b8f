/- The program's ModuleBytes. -/
import Derived.Test.YteiekdolbnkihaaDoorBy2
import Derived.Test.YteiekdolbnkihaaDoorGs1
import Derived.Deep.RegionHeld3
import Derived.Deep.RegionLawGrows
set_option linter.unusedVariables false
set_option linter.unusedSimpArgs false
namespace Go.Proofs.YteiekdolbnkihaaDoor.L
open Go.RowKit
def modHead : List UInt8 := [0, 97, 115, 109, 1, 0, 0, 0]
def modL : List Se → List UInt8
  | [] => []
  | x :: t => (UInt8.ofNat x.id.toNat :: lebB x.body.size ++ x.body.data.toList) ++ modL t
theorem modL_snoc (l : List Se) (x : Se) : modL (l ++ [x]) = modL l ++ (UInt8.ofNat x.id.toNat :: lebB x.body.size ++ x.body.data.toList) := by
  induction l with
  | nil => simp [modL]
  | cons y t ih => rw [List.cons_append, modL, ih, modL]; simp
theorem modL_len (l : List Se) (h : ∀ x ∈ l, x.body.size ≤ 200) : (modL l).length ≤ 203 * l.length := by
  induction l with
  | nil => simp [modL]
  | cons y t ih =>
    have h1 := ih (fun x hx => h x (List.mem_cons_of_mem _ hx))
    have h2 := lebB_len y.body.size
    have h3 := h y List.mem_cons_self
    have h4 : y.body.data.toList.length = y.body.size := Array.length_toList
    rw [modL]
    simp only [List.length_append, List.length_cons, h4]
    omega
theorem loopB_all : ∀ (l : List Se) (u : Int), loopB u l = true → ∀ x ∈ l, inB x.id 0 11 = true ∧ x.body.size ≤ 200
  | [], _, _, x, hx => by cases hx
  | y :: t, u, h, x, hx => by
    rw [loopB] at h
    have h1 : oneB y = true := by
      by_cases hh : oneB y = true
      · exact hh
      · rw [if_neg hh] at h; cases h
    rw [if_pos h1] at h
    have h1' : inB y.id 0 11 = true ∧ y.body.size ≤ 200 := by unfold oneB at h1; simpa using h1
    rcases List.mem_cons.1 hx with rfl | hx
    · exact h1'
    · split at h
      · split at h
        · cases h
        · exact loopB_all t _ h x hx
      · split at h
        · exact loopB_all t _ h x hx
        · cases h
theorem goodB_all {l : List Se} (h : goodB l = true) : l.length ≤ 8 ∧ ∀ x ∈ l, inB x.id 0 11 = true ∧ x.body.size ≤ 200 := by
  unfold goodB at h
  simp only [Bool.and_eq_true, decide_eq_true_eq] at h
  exact ⟨h.1, loopB_all l 0 h.2⟩
/-- The bytes of a module, if it is one. -/
def bytesOf (l : List Se) : Option ByteArray := if goodB l then some ⟨(modHead ++ modL l).toArray⟩ else none
theorem cell_new' {w : World} {cs : Array Value} {t g : Nat} {u : Value} (hg : g = w.heap.size) (hu : cs[0]? = some u) : (w.alloc (.cells cs t)).cell? ⟨g, 0, none⟩ = some u := by
  subst hg
  exact ((cell_of_block (heap_alloc_new w _)).1 0).trans hu
theorem cell_newd {w : World} {cs : Array Value} {t g : Nat} {u : Value} (hg : g = w.heap.size) (hu : cs[0]? = some u) : (w.alloc (.cells cs t)).drew.cell? ⟨g, 0, none⟩ = some u := cell_new' (w := w) (cs := cs) (t := t) hg hu
theorem BO.ne {B : Nat} {w0 W : World} {v : Value} {l : List UInt8} (h : BO B w0 W v l) : v.ownBlock ≠ some W.heap.size := fun he => by
  obtain ⟨q1, q2⟩ := h.own
  rcases q2 with ⟨rfl, _⟩ | ⟨g', cap, cur, rfl, _, hh, _⟩
  · cases he
  · have := (Array.getElem?_eq_some_iff.1 hh).1
    simp [Value.ownBlock] at he; omega
theorem BO.drew {B : Nat} {w0 W : World} {v : Value} {l : List UInt8} (h : BO B w0 W v l) : BO B w0 W.drew v l := ⟨h.own, below_drew h.below, h.size⟩
theorem BO.new {B : Nat} {w0 W : World} {v : Value} {l : List UInt8} (h : BO B w0 W v l) (o : Obj) : BO B w0 (W.alloc o) v l := h.call (below_new o)
def hcs : Array Value := #[.int .u8 0, .int .u8 97, .int .u8 115, .int .u8 109, .int .u8 1, .int .u8 0, .int .u8 0, .int .u8 0]
/-- '[]byte(..)' of a constant: the row bears the run-time's mark behind its last cell. -/
theorem conv_mark (w : World) : (convert 46 46 (.slice (some ⟨w.heap.size, 0, none⟩) 8 8)).run Tryd.prog (w.alloc (.cells #[.int .u8 0, .int .u8 97, .int .u8 115, .int .u8 109, .int .u8 1, .int .u8 0, .int .u8 0, .int .u8 0] 5)) =
    .ok (.slice (some ⟨w.heap.size, 0, none⟩) 8 8) (w.alloc (.cells hcs 5 (8, 9))) := by
  have hsh : (w.alloc (.cells #[.int .u8 0, .int .u8 97, .int .u8 115, .int .u8 109, .int .u8 1, .int .u8 0, .int .u8 0, .int .u8 0] 5)).shape? w.heap.size = some (5, 8) := by
    unfold World.shape?
    rw [heap_alloc_new w _]
    rfl
  have hfr : (w.alloc (.cells #[.int .u8 0, .int .u8 97, .int .u8 115, .int .u8 109, .int .u8 1, .int .u8 0, .int .u8 0, .int .u8 0] 5)).freeze ⟨w.heap.size, 8, none⟩ 1 = w.alloc (.cells hcs 5 (8, 9)) := by
    have hm : ∀ (a : Array Obj) (x : Obj) (f : Obj → Obj), (a.push x).modify a.size f = a.push (f x) := by
      intro a x f
      apply Array.ext
      · simp
      · intro i h1 h2
        simp only [Array.getElem_modify, Array.getElem_push]
        by_cases h : a.size = i
        · subst h; simp
        · have hi : i < a.size := by simp at h1; omega
          simp [h, hi]
    unfold World.freeze
    rw [if_neg (by decide)]
    show ({ w.alloc (.cells hcs 5) with heap := (w.heap.push (.cells hcs 5)).modify w.heap.size _ } : World) = _
    rw [hm]
    rfl
  simp [convert, run_underlying Tryd.underlying46, run_underlying Tryd.underlying5, markStringish, hsh, hfr]
/-- Bytes that are read, with no room behind them. -/
def BR (B : Nat) (w0 W : World) (v : Value) (l : List UInt8) : Prop :=
  ∃ g, v = .slice (some ⟨g, 0, none⟩) l.length l.length ∧ (∀ j u, (bcells l)[j]? = some u → W.cell? ⟨g, j, none⟩ = some u) ∧ Below B w0 W ∧ B ≤ W.heap.size
theorem BR.call {B : Nat} {w0 W W' : World} {v : Value} {l : List UInt8} (h : BR B w0 W v l) (hb : Below W.heap.size W W') : BR B w0 W' v l := by
  obtain ⟨g, rfl, h1, h2, h3⟩ := h
  exact ⟨g, rfl, fun j u hu => cell_below hb (h1 j u hu), h2.trans (hb.mono h3), Nat.le_trans h3 hb.size⟩
theorem BR.drew {B : Nat} {w0 W : World} {v : Value} {l : List UInt8} (h : BR B w0 W v l) : BR B w0 W.drew v l := by
  obtain ⟨g, rfl, h1, h2, h3⟩ := h
  exact ⟨g, rfl, h1, below_drew h2, h3⟩
theorem BR.new {B : Nat} {w0 W : World} {v : Value} {l : List UInt8} (h : BR B w0 W v l) (o : Obj) : BR B w0 (W.alloc o) v l := h.call (below_new o)
theorem head_read (w W : World) (hb : Below w.heap.size w W) : BR w.heap.size w (W.alloc (.cells hcs 5 (8, 9))) (.slice (some ⟨W.heap.size, 0, none⟩) 8 8) modHead := by
  refine ⟨W.heap.size, rfl, fun j u hu => ?_, hb.alloc hb.size _, Nat.le_trans hb.size (by simp)⟩
  rw [World.cell?_alloc_mark]
  rw [← Array.getElem?_toList]
  exact hu
theorem BR.ne {B : Nat} {w0 W : World} {v : Value} {l : List UInt8} (h : BR B w0 W v l) (hl : l ≠ []) : v.ownBlock ≠ some W.heap.size := fun he => by
  obtain ⟨g, rfl, h1, _, _⟩ := h
  cases l with
  | nil => exact hl rfl
  | cons b t =>
    have := World.block_lt_of_cell? W _ (h1 0 (.int .u8 b.toNat) rfl)
    simp [Value.ownBlock] at he this
    omega
theorem rconv {B : Nat} {w0 W : World} {v : Value} {l : List UInt8} (h : BR B w0 W v l) : (convert 46 9 v).run Tryd.prog W = .ok (.string ⟨l.toArray⟩) W := by
  obtain ⟨g, rfl, h1, _, _⟩ := h
  refine run_convert_bytes_back W 46 9 5 ⟨g, 0, none⟩ l.length l Tryd.underlying46 Tryd.underlying5 Tryd.underlying9 (fun j hj => ?_)
  rw [Addr.add_lit, Nat.zero_add]
  exact h1 j _ (by simp [bcells, hj])
theorem bstepG {ops : Array Oper} {o : Oper} {a : Act} {Q : Exit → Act → World → Prop} {B : Nat} {w0 W : World} {v : Value} {l : List UInt8} {K : Act → World → Prop} {E : Prop} (hgd : o.guard = none) (s x : Operand) (ho : o.op = .call { callee := .builtin .append, args := #[s, x], argTypes := #[46, 46] })
    (b : UInt8) (g : Nat) (hs : a.eval s = v) (hx : a.eval x = .slice (some ⟨g, 0, none⟩) 1 1) (HO : BR B w0 W v l) (hc : W.cell? ⟨g, 0, none⟩ = some (.int .u8 b.toNat)) (hl : l.length + 1 ≤ 1000000)
    (h : ∀ v1 w1, BO B w0 w1 v1 (l ++ [b]) → GB W w1 v v1 → K (a.put o.dst v1) w1) :
    if Region.wanted o (yielded ops a.tmps) = true then Oper.wp Tryd.prog o a W K Q else E := by
  obtain ⟨i0, hi, hzz⟩ := Option.map_eq_some_iff.1 infoByte
  simp only [Prod.mk.injEq] at hzz
  obtain ⟨hz0, hz1, hz2⟩ := hzz
  obtain ⟨g0, rfl, hcells, hbel, hsz⟩ := HO
  refine step_append_grows hgd s x 46 ho 5 i0 (.int .u8 0) 1 1 Tryd.underlying46 hi hz0 hz1 hz2 rfl (by omega) (some ⟨g0, 0, none⟩) l.length l.length (bcells l) hs (fun h => by cases h) (by simp [bcells]) (fun b' hb' j u hu => by cases hb'; rw [Addr.add_lit, Nat.zero_add]; exact hcells j u hu)
    ⟨g, 0, none⟩ 1 1 [.int .u8 b.toNat] hx (by rfl) (fun j u hu => by
      cases j with
      | zero => simp only [List.getElem?_cons_zero, Option.some.injEq] at hu; subst hu; simpa [Addr.add] using hc
      | succ j => simp at hu) (by intro u hu; rw [List.mem_singleton.1 hu]; rfl) (by omega) (by simp only [maxLen]; omega) (by omega) ?_
  intro v1 w1 hown hg
  refine h v1 w1 ⟨?_, below_grown hbel hg (fun k hk => by cases hk) hsz, Nat.le_trans hsz hg.size⟩ ⟨fun k hk _ => hg.block k hk (by simp), hg.size, fun k hk => .inr (own_row_ge hown k hk)⟩
  obtain ⟨q1, q2⟩ := hown
  refine ⟨by simp [bcells], ?_⟩
  rcases q2 with ⟨h1, h2⟩ | ⟨g', cap, cur, h1, h2, h3, h4, h5, h6, h7⟩
  · omega
  · exact .inr ⟨g', cap, cur, by rw [List.length_append]; exact h1, Nat.le_trans hsz h2, h3, by rw [List.length_append]; exact h4, h5, h6, by rw [List.length_append]; simpa [bcells] using h7⟩
set_option maxRecDepth 100000 in
set_option maxHeartbeats 8000000 in
theorem moduleBytes_calls {F : Nat → Prop} (v : Value) (l : List Se) (w : World) (h : Rp.Rd sect w F v l) (hl : l.length ≤ 1048576) (hs : ∀ x ∈ l, x.body.size ≤ 1048576) (hT : Tabs w) :
    Calls Tryd.prog 24 #[v] w fun e w' => e = .returned (nameV (bytesOf l)) ∧ Below w.heap.size w w' := by
  have HU : Hid (bytesOf l = if goodB l then some ⟨(modHead ++ modL l).toArray⟩ else none) := Lib.hid rfl
  have HG := goodSections_calls v l w h hl hs hT
  have hall := @goodB_all l
  generalize goodB l = z at *
  have HG := Lib.hid HG
  obtain ⟨A, c, rfl, hlc, hcm, hrow⟩ := rd_sect h
  cases z
  · go_enter Tryd.func24, Tryd.ntmps24
    go_wp2_with (go_at_call 19; refine HG.out.mono ?_; rintro e w1 ⟨rfl, hb⟩)
    exact bodyPost_ret (v := nameV none) (by simp [results, Tryd.results24, go_sem, nameV]) rfl ⟨by rw [HU.out]; rfl, hb⟩
  · obtain ⟨hl8, hx⟩ := hall rfl
    clear hall
    have hcm2 := conv_mark
    go_enter Tryd.func24, Tryd.ntmps24
    go_wp2_with (go_at_call 19; refine HG.out.mono ?_; rintro e w1 ⟨rfl, hb⟩)
    have hB1 := hb.size
    go_loopw [4, 14] (fun o1 i wr => ∃ k : Nat, k ≤ l.length ∧ i = .int .i64 k ∧ (BO w.heap.size w wr o1 (modHead ++ modL (l.take k)) ∨ BR w.heap.size w wr o1 (modHead ++ modL (l.take k)))) (fun _ i _ => l.length - (intOf i).toNat)
    case atStart => exact ⟨0, Nat.zero_le _, rfl, .inr (by simpa [modL] using head_read w w1 hb)⟩
    case round =>
      obtain ⟨k, hk, rfl, HO⟩ := hrel
      have HBw : Below w.heap.size w wr := by
        rcases HO with h | ⟨_, _, _, h, _⟩
        · exact h.below
        · exact h
      have hmlen := modL_len (l.take k) (fun x hx' => (hx x (List.mem_of_mem_take hx')).2)
      have htl : (l.take k).length ≤ 8 := by simp; omega
      have hlen2 : (modHead ++ modL (l.take k)).length ≤ 50000 := by simp [modHead]; omega
      have hpne : modHead ++ modL (l.take k) ≠ [] := by simp [modHead]
      by_cases hlt : k < l.length
      · rcases hrow with rfl | ⟨b, o, rfl, hb0, hcell⟩
        · simp at hlt
        have c1 := (hcell k hlt).below HBw
        clear hcell
        obtain ⟨q0, q1⟩ := c1
        have hxk := hx l[k] (List.getElem_mem hlt)
        have HS : Hid (modHead ++ modL (l.take (k + 1)) = modHead ++ modL (l.take k) ++ (UInt8.ofNat l[k].id.toNat :: lebB l[k].body.size ++ l[k].body.data.toList)) := Lib.hid (by rw [List.take_succ_eq_append_getElem hlt, modL_snoc, List.append_assoc])
        obtain ⟨x, hxe⟩ : ∃ x, l[k] = x := ⟨_, rfl⟩
        rw [hxe] at q0 q1 HS hxk
        clear hxe
        obtain ⟨xid, body⟩ := x
        obtain ⟨h11, h200⟩ := hxk
        simp only at h11 h200 q0 q1 HS
        obtain ⟨n, rfl⟩ : ∃ n : Nat, xid = n := ⟨xid.toNat, by unfold inB at h11; simp at h11; omega⟩
        have hn11 : n ≤ 11 := by unfold inB at h11; simp at h11; omega
        have HN : Hid (IntKind.u8.wrap (n : Int) = ((UInt8.ofNat n).toNat : Int)) := Lib.hid (by rw [IntKind.wrap_u8, ← ofNat_toNat n (by omega)]; omega)
        rw [Int.toNat_natCast] at HS
        clear h11
        generalize modHead ++ modL (l.take k) = pre at *
        have hbs : body.data.toList.length = body.size := Array.length_toList
        have HBS := Lib.hid hbs
        clear hbs
        rcases HO with HO | HO
        · have HOb := HO.new (.cells #[.int .i64 (n : Int), .string body] 27)
          go_wp2_with fail
          have tok1 : True := trivial
          have hne := HO.ne
          go_region_held3 (fun w' => w'.cell? ⟨wr.heap.size, 0, none⟩ = some (.int .i64 (n : Int)) ∧ w'.cell? ⟨wr.heap.size, 1, none⟩ = some (.string body))
            (first | go_keep | exact ⟨HG2.cell (by simp) hne, HG2.cell (by simp) hne⟩ | exact ⟨HG3.cell hk0 hne2, HG3.cell hk1 hne2⟩)
            ((first | (have _t := tok1; (refine bstep1 (l := pre) (B := w.heap.size) (w0 := w) (by rfl) _ _ (by rfl) (UInt8.ofNat n) _ (by rfl) (by rfl) (by first | exact (HOb.new _).drew | exact HOb.new _) (by first | exact cell_newd (by first | rfl | simp) (congrArg (fun z => some (Value.int .u8 z)) HN.out) | exact cell_new' (by first | rfl | simp) (congrArg (fun z => some (Value.int .u8 z)) HN.out)) (by omega) ?_); intro v2 w2 HO2 HG2; clear tok1; have hk0 : w2.cell? ⟨wr.heap.size, 0, none⟩ = some (.int .i64 (n : Int)) := HG2.cell (by simp) hne; have hk1 : w2.cell? ⟨wr.heap.size, 1, none⟩ = some (.string body) := HG2.cell (by simp) hne) | (go_at_call 51; have hne2 : v2.ownBlock ≠ some wr.heap.size := fun he => (HG2.row _ he).elim hne (fun hge => by simp [World.drew] at hge; try omega); refine (putU_calls _ _ _ _ _ body.size HO2 (by simp; omega) h200).mono ?_; rintro e w3 ⟨v3, rfl, HO3, HG3⟩)))
          have hl3 : (pre ++ [UInt8.ofNat n] ++ lebB body.size).length + body.size ≤ 1000000 := by have := (lebB_len body.size).2; simp; omega
          have e0 := HG3.cell hk0 hne2
          have e1 := HG3.cell hk1 hne2
          have tok2 : True := trivial
          clear hk0 hk1 HG2 HG3 HOb hne hne2 HO2
          go_wp2_with (at_builtin; have _t := tok2; refine bappS (by rfl) _ _ (by rfl) body (by rfl) (by rfl) HO3 hl3 ?_; intro v4 w4 HO4; clear tok2)
          go_roundw
          case rel => exact ⟨k + 1, by omega, by go_num, .inl (by rw [HS.out]; simpa [List.append_assoc] using HO4)⟩
          case measure => simp [intOf]; omega
        · have HOb := HO.new (.cells #[.int .i64 (n : Int), .string body] 27)
          go_wp2_with fail
          have tok1 : True := trivial
          have hne := HO.ne hpne
          go_region_held3 (fun w' => w'.cell? ⟨wr.heap.size, 0, none⟩ = some (.int .i64 (n : Int)) ∧ w'.cell? ⟨wr.heap.size, 1, none⟩ = some (.string body))
            (first | go_keep | exact ⟨HG2.cell (by simp) hne, HG2.cell (by simp) hne⟩ | exact ⟨HG3.cell hk0 hne2, HG3.cell hk1 hne2⟩)
            ((first | (have _t := tok1; (refine bstepG (l := pre) (B := w.heap.size) (w0 := w) (by rfl) _ _ (by rfl) (UInt8.ofNat n) _ (by rfl) (by rfl) (by first | exact (HOb.new _).drew | exact HOb.new _) (by first | exact cell_newd (by first | rfl | simp) (congrArg (fun z => some (Value.int .u8 z)) HN.out) | exact cell_new' (by first | rfl | simp) (congrArg (fun z => some (Value.int .u8 z)) HN.out)) (by omega) ?_); intro v2 w2 HO2 HG2; clear tok1; have hk0 : w2.cell? ⟨wr.heap.size, 0, none⟩ = some (.int .i64 (n : Int)) := HG2.cell (by simp) hne; have hk1 : w2.cell? ⟨wr.heap.size, 1, none⟩ = some (.string body) := HG2.cell (by simp) hne) | (go_at_call 51; have hne2 : v2.ownBlock ≠ some wr.heap.size := fun he => (HG2.row _ he).elim hne (fun hge => by simp [World.drew] at hge; try omega); refine (putU_calls _ _ _ _ _ body.size HO2 (by simp; omega) h200).mono ?_; rintro e w3 ⟨v3, rfl, HO3, HG3⟩)))
          have hl3 : (pre ++ [UInt8.ofNat n] ++ lebB body.size).length + body.size ≤ 1000000 := by have := (lebB_len body.size).2; simp; omega
          have e0 := HG3.cell hk0 hne2
          have e1 := HG3.cell hk1 hne2
          have tok2 : True := trivial
          clear hk0 hk1 HG2 HG3 HOb hne hne2 HO2
          go_wp2_with (at_builtin; have _t := tok2; refine bappS (by rfl) _ _ (by rfl) body (by rfl) (by rfl) HO3 hl3 ?_; intro v4 w4 HO4; clear tok2)
          go_roundw
          case rel => exact ⟨k + 1, by omega, by go_num, .inl (by rw [HS.out]; simpa [List.append_assoc] using HO4)⟩
          case measure => simp [intOf]; omega
      · obtain rfl : k = l.length := by omega
        rw [List.take_length] at HO hpne
        have hcv : ∀ o1, (BO w.heap.size w wr o1 (modHead ++ modL l) ∨ BR w.heap.size w wr o1 (modHead ++ modL l)) → (convert 46 9 o1).run Tryd.prog wr = .ok (.string ⟨(modHead ++ modL l).toArray⟩) wr := fun o1 h => h.elim (fun h => bconv h hpne) (fun h => rconv h)
        have hcv := hcv _ HO
        clear HO
        generalize (ByteArray.mk (modHead ++ modL l).toArray) = res at *
        go_wp2
        exact bodyPost_ret (v := nameV (some res)) (by simp [results, Tryd.results24, go_sem, nameV]) rfl ⟨by rw [HU.out]; rfl, HBw⟩
end Go.Proofs.YteiekdolbnkihaaDoor.L
