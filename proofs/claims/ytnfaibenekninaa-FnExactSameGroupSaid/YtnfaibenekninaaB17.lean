/- Joined texts, each of which was built by itself: Gr1 Gq1 Rs1 Df2 Gq2. -/
import Derived.Test.YtnfaibenekninaaB16
import Derived.Test.YtnfaibenekninaaB15
import Derived.Laws.IdiomStrings
import Derived.Test.YtnfaibenekninaaB10
import Derived.Test.YtnfaibenekninaaB11
import Derived.Deep.RegionHeld3
import Derived.Lib.SliceRun
set_option linter.unusedVariables false
set_option linter.unusedSimpArgs false
namespace Go.Proofs.Ytnfaibenekninaa.L
open Go.RowKit
def srtR (D : List Df) (v : Nat) : Int × Int := sortD D (rootD D v)
def usR (s : Sa) (D : List Df) (v : Nat) : List Nat := usD s D (rootD D v)
theorem sort_in64 {s : Sa} (h : GoodP s) {v : Nat} (hv : v < s.values.toNat) : in64 (sortD (dfAll s) v).1 ∧ in64 (sortD (dfAll s) v).2 := by
  have hv2 := h.v2
  have hn2 := h.n2
  unfold in64 sortD
  rcases df_cases h hv with hd | ⟨h12, q, p, i, hq, hi, hd⟩ | ⟨h12, x, q, p, hq, hx, ho, hd⟩
  · rw [hd]
    unfold df0 fl0
    repeat' split
    all_goals (constructor <;> (dsimp only; omega))
  · rw [hd]
    have hql := (List.getElem?_eq_some_iff.1 hq).1
    unfold fl0
    repeat' split
    all_goals (constructor <;> (dsimp only; omega))
  · rw [hd]
    have hf := static_flat (h.static (List.mem_of_getElem? hq)) x hx
    unfold flatB at hf
    simp only [Bool.and_eq_true, Bool.or_eq_true] at hf
    have hn : 0 ≤ x.n ∧ x.n ≤ 65535 := by
      rcases hf.1.2 with h1 | h1
      · have := h1.2; unfold inB at this; simpa using this
      · have := h1.2; simp at this; omega
    have hdo : 0 ≤ x.dO ∧ x.dO ≤ 9 := by
      rcases hf.2 with h1 | h1
      · have := h1.2; unfold inB at this; simp at this; omega
      · have := h1.2; simp at this; omega
    repeat' split
    all_goals (constructor <;> (dsimp only; omega))
def b8 : Rp UInt8 := Rp.lit (fun b => Value.int .u8 (b.toNat : Int)) (fun _ => rfl)
theorem infoB8 : (Try.prog.info? 5).map (fun i => (i.zero, i.size, i.bytes)) = some (some (.int .u8 0), 1, 1) := by kernel_rfl
theorem infoSrt : (Try.prog.info? 89).map (fun i => (i.zero, i.size, i.bytes)) = some (some (.agg #[.int .i64 0, .int .i64 0]), 2, 16) := by kernel_rfl
theorem infoGrp : (Try.prog.info? 178).map (fun i => (i.zero, i.size, i.bytes)) = some (some (.agg #[.int .i64 0, .string ByteArray.empty]), 2, 24) := by kernel_rfl
theorem u8_toNat {n : Nat} (h : n < 256) : (UInt8.ofNat n).toNat = n := by simp [UInt8.toNat_ofNat', Nat.mod_eq_of_lt h]
theorem stopI_lt {N : Nat} {srt : Nat → Int × Int} {us : Nat → List Nat} {t : Nat} (h : ¬ StopI N srt us t) : cntI N srt us t < cntI N srt us (t + 1) := by
  have := cntI_mono (n := N) (srt := srt) (us := us) t
  unfold StopI at h
  omega
/-- The keys of a round, the first k told. -/
def keysT (s : Sa) (D : List Df) (N t k : Nat) : List (Nat × List UInt8) := (List.range N).map (fun v => if v < k then keyI (usR s D) (nowI N (srtR D) (usR s D) t) v else (0, []))
theorem keysT_len (s : Sa) (D : List Df) (N t k : Nat) : (keysT s D N t k).length = N := by simp [keysT]
/-- The bytes of the groups of what a value uses. -/
def byteL (now : List Nat) (l : List Int) : List UInt8 := l.map (fun u => UInt8.ofNat (now.getD u.toNat 0))
theorem byteL_take {now : List Nat} {l : List Int} {m : Nat} (hm : m < l.length) : byteL now (l.take (m + 1)) = byteL now (l.take m) ++ [UInt8.ofNat (now.getD l[m].toNat 0)] := by
  unfold byteL
  rw [List.take_succ_eq_append_getElem hm, List.map_append]
  rfl
theorem keyI_eq (s : Sa) (D : List Df) (now : List Nat) (v : Nat) : keyI (usR s D) now v = (now.getD v 0, byteL now (partsD s D (rootD D v))) := by
  unfold keyI usR usD byteL
  rw [List.map_map]
  rfl
/-- string(b) of bytes of one's own, that are no nil. -/
theorem conv_b8 {ap : Bool} {W : World} {F : Nat → Prop} {g n c : Nat} {l : List UInt8} (h : Ow ap 5 b8 W F (.slice (some ⟨g, 0, none⟩) n c) l) : (convert 176 9 (.slice (some ⟨g, 0, none⟩) n c)).run Try.prog W = .ok (.string ⟨l.toArray⟩) W := by
  obtain rfl := h.len_eq
  refine run_convert_bytes_back W 176 9 5 ⟨g, 0, none⟩ c l Try.underlying176 Try.underlying5 Try.underlying9 (fun j hj => ?_)
  obtain ⟨g', c', cs, he, _, _, hK, hc, _⟩ := h.at_ (List.getElem?_eq_getElem hj)
  injection he with he _ _
  injection he with he
  injection he with he _
  subst he
  have hK : cs = [Value.int .u8 (l[j].toNat : Int)] := hK
  subst hK
  have := hc 0 _ rfl
  rw [show j * b8.sz + 0 = j from by show j * 1 + 0 = j; omega] at this
  rw [Addr.add_lit, Nat.zero_add]
  exact this
def srtsL (D : List Df) (N k : Nat) : List (Int × Int) := (List.range N).map (fun v => if v < k then srtR D v else (0, 0))
theorem srtsL_len (D : List Df) (N k : Nat) : (srtsL D N k).length = N := by simp [srtsL]
theorem upd_set {α : Type} {N k : Nat} {f : Nat → α} {z m : α} (hk : k < N) (h : m = f k) : ((List.range N).map (fun v => if v < k then f v else z)).set k m = (List.range N).map (fun v => if v < k + 1 then f v else z) := by
  apply List.ext_getElem
  · simp
  · intro i h1 h2
    rw [List.getElem_set]
    simp only [List.getElem_map, List.getElem_range]
    by_cases hik : k = i
    · subst hik; simp [h]
    · rw [if_neg hik]
      by_cases h3 : i < k
      · rw [if_pos h3, if_pos (by omega)]
      · rw [if_neg h3, if_neg (by omega)]
theorem upd_zero {α : Type} {N : Nat} {f : Nat → α} {z : α} : (List.range N).map (fun v => if v < 0 then f v else z) = List.replicate N z := by
  apply List.ext_getElem
  · simp
  · intro i h1 h2; simp
theorem upd_all {α : Type} {N : Nat} {f : Nat → α} {z : α} : (List.range N).map (fun v => if v < N then f v else z) = (List.range N).map f :=
  List.map_congr_left fun v hv => by rw [if_pos (List.mem_range.1 hv)]
theorem Ow.two_at {α : Type} {ap : Bool} {e g n c : Nat} {r : Rp α} {f h2 : α → Value} (h2s : r.sz = 2) (ho : ∀ {w F x cs}, r.K w F x cs → cs = [f x, h2 x]) {w : World} {F : Nat → Prop} {l : List α} (h : Ow ap e r w F (.slice (some ⟨g, 0, none⟩) n c) l) {k : Nat} (hk : k < l.length) :
    w.cell? ⟨g, k * 2, none⟩ = some (f l[k]) ∧ w.cell? ⟨g, k * 2 + 1, none⟩ = some (h2 l[k]) ∧ ∀ o, w.frozen? ⟨g, o, none⟩ = false := by
  obtain ⟨g', c', cs, he, _, _, hK, hc, hf⟩ := h.at_ (List.getElem?_eq_getElem hk)
  injection he with he _ _
  injection he with he
  injection he with he _
  subst he
  obtain rfl := ho hK
  rw [h2s] at hc
  exact ⟨hc 0 _ rfl, hc 1 _ rfl, hf⟩
set_option maxRecDepth 100000 in
set_option maxHeartbeats 16000000 in
theorem groups_calls {F : Nat → Prop} (s : Sa) (N vb : Nat) (vparts vn vd vD vT : Value) (w : World) (hv : w.heap[vb]? = some (viewC vparts s.values vn vd vD vT)) (hs : Rp.Rd part w F vparts s.parts) (hg : GoodP s) (hx2 : ∀ p ∈ s.parts, PtLim p) (hNV : (N : Int) = s.values) :
    Calls Try.prog 63 #[.pointer (some ⟨vb, 0, none⟩)] w fun e w' => ∃ (v' : Value) (t : Nat), e = .returned (.tuple #[v', .int .i64 t]) ∧ Ow true 3 Rp.int w' (fun q => w.heap.size ≤ q) v' (intsN (nowI N (srtR (dfAll s)) (usR s (dfAll s)) t)) ∧ First (StopI N (srtR (dfAll s)) (usR s (dfAll s))) t ∧ Below w.heap.size w w' := by
  obtain ⟨rank, X⟩ := dctx hg hNV
  have hNt : s.values.toNat = N := by omega
  have hv1 := hg.v1
  have hv2 := hg.v2
  have hN0 : 0 < N := by omega
  have hN1 : N ≤ 250 := by omega
  have HMk := Lib.hid (makers_calls s N vb vparts vn vd vD vT w hv hs hg hx2 hNV)
  have Hin := Lib.hid (fun v (hv : v < N) => sort_in64 hg (v := rootD (dfAll s) v) (by have := (rootD_lt X.rk hv).1; omega))
  have Hpin := Lib.hid (fun v (hv : v < N) => X.pin (rootD (dfAll s) v) (rootD_lt X.rk hv).1)
  have Hpl := Lib.hid (fun v (hv : v < N) => X.pl (rootD (dfAll s) v) (rootD_lt X.rk hv).1)
  obtain ⟨D, hD⟩ : ∃ D, D = dfAll s := ⟨_, rfl⟩
  rw [← hD] at HMk Hin Hpin Hpl ⊢
  clear hD X hg hx2 hv hs hNt
  replace hNV := Lib.hid hNV
  go_enter Try.func63, Try.ntmps63
  go_wp2_with fail
  refine HMk.out.mono ?_
  rintro e w1 ⟨vM, rfl, hM, hb1⟩
  have hlM : (resL s D N).length = N := by simp [resL]
  have hgM := Lib.hid (fun v (hv : v < N) (h : v < (resL s D N).length) => (show (resL s D N)[v] = resM s D v by simp [resL]))
  obtain ⟨L, hL⟩ : ∃ L, L = resL s D N := ⟨_, rfl⟩
  rw [← hL] at hM hlM hgM
  clear hL HMk
  replace hM := hM.bound
  obtain ⟨AM, cM, rfl, _, _, hrM⟩ := rd_mkr hM
  obtain rfl : N = L.length := hlM.symm
  clear hlM
  rcases hrM with hn | ⟨bM, oM, rfl, hbM, hcM⟩
  · rw [hn] at hN0; simp at hN0
  have HcM := Lib.hid hcM
  clear hcM hM
  have hmk1 := mk_all Try.underlying173 infoSrt L.length (by omega) (by omega)
  have hmk2 := mk_all Try.underlying175 infoGrp L.length (by omega) (by omega)
  have hO1 := ow_alloc (e := 89) (r := srtK) (n := L.length) (z := #[.int .i64 0, .int .i64 0]) (x0 := (0, 0)) w1 (by omega) rfl (by decide) (fun _ => srt_mk _ _ (0, 0))
  have hb2 := below_new (w := w1) (.cells (madeCells #[.int .i64 0, .int .i64 0] (L.length * 2)) 89)
  have hz2 : (w1.alloc (.cells (madeCells #[.int .i64 0, .int .i64 0] (L.length * 2)) 89)).heap.size = w1.heap.size + 1 := by simp
  have hsN := hb1.size
  go_wp2_with fail
  obtain ⟨W2, hW2⟩ : ∃ W2, W2 = w1.alloc (.cells (madeCells #[.int .i64 0, .int .i64 0] (L.length * 2)) 89) := ⟨_, rfl⟩
  have hO2 : Ow true 89 srtK W2 (fun q => q = w1.heap.size) (.slice (some ⟨w1.heap.size, 0, none⟩) L.length L.length) (srtsL D L.length 0) := by rw [hW2]; unfold srtsL; rw [upd_zero]; exact hO1
  rw [← hW2] at hb2 hz2 ⊢
  clear hW2 hO1
  obtain ⟨go, hgo⟩ : ∃ go, go = w1.heap.size := ⟨_, rfl⟩
  rw [← hgo] at hO2 ⊢
  have hB2 := below_then hb1 hb2
  have hHcM2 : Hid (∀ k (hk : k < L.length), ∃ u, MkAt W2 bM (oM + k * 4) L[k] u ∧ Rp.Rd Rp.int W2 (fun q => q < go) u L[k].uses) := Lib.hid (fun k hk => by
    obtain ⟨u, h1, h2⟩ := HcM.out k hk
    exact ⟨u, h1.below hb2, (h2.mono (fun q hq => by have := hq.2; omega)).below hb2⟩)
  have hbg : bM < go := by omega
  have hRet : ∀ w' : World, Chg (fun q => q = go) W2 w' → Below w.heap.size w w' := fun w' h => h.to_below hB2 hB2.size (fun q hq => by have hq : q = go := hq; omega)
  replace hRet := Lib.hid hRet
  have hgg : go < W2.heap.size := by omega
  have hgw : w.heap.size ≤ go := by omega
  clear hgo hz2 hb2 HcM hsN hmk1
  go_loopw [26] (fun i wr => ∃ k : Nat, k ≤ L.length ∧ i = .int .i64 k ∧ Ow true 89 srtK wr (fun q => q = go) (.slice (some ⟨go, 0, none⟩) L.length L.length) (srtsL D L.length k) ∧ Chg (fun q => q = go) W2 wr) (fun i _ => L.length - (intOf i).toNat)
  case atStart => exact ⟨0, Nat.zero_le _, rfl, hO2, Chg.refl _ _⟩
  case round =>
    clear hO2
    obtain ⟨k, hk, rfl, HO, HC⟩ := hrel
    rename World => wx
    by_cases hkt : k < L.length
    · have k0 : (0 : Int) ≤ (k : Int) := Int.natCast_nonneg _
      have k1 : (k : Int) < (L.length : Int) := by omega
      obtain ⟨u, hu1, hu2⟩ := hHcM2.out k hkt
      have hcl : ∀ (o : Nat) (x : Value), W2.cell? ⟨bM, o, none⟩ = some x → wx.cell? ⟨bM, o, none⟩ = some x := fun o x h => (Rp.cell_move (HC.block bM (blk_of_cell h) (by show ¬ bM = go; omega)) o).trans h
      have z0 := hcl _ _ hu1.c0
      have z1 := hcl _ _ hu1.c1
      have z2 := hcl _ _ hu1.c2
      have z3 := hcl _ _ hu1.c3
      rw [hgM.out k hkt hkt] at z0 z1 z3 hu2
      have hlS := srtsL_len D L.length k
      have hset : Hid (∀ m, m = srtR D k → (srtsL D L.length k).set k m = srtsL D L.length (k + 1)) := Lib.hid (fun m h => upd_set hkt h)
      obtain ⟨Au, cu, rfl, _, _, _⟩ := id hu2
      clear hcl hu1 hu2
      have hb3 := below_new (w := wx) (.cells #[.int .i64 (resM s D k).kind, .int .i64 (resM s D k).n, .slice Au (resM s D k).uses.length cu, .int .i64 (resM s D k).copy] 91)
      have x3 := heap_alloc_new wx (.cells #[.int .i64 (resM s D k).kind, .int .i64 (resM s D k).n, .slice Au (resM s D k).uses.length cu, .int .i64 (resM s D k).copy] 91)
      obtain ⟨y1, _⟩ := cell_of_block x3
      have y10 : (wx.alloc (.cells #[.int .i64 (resM s D k).kind, .int .i64 (resM s D k).n, .slice Au (resM s D k).uses.length cu, .int .i64 (resM s D k).copy] 91)).cell? ⟨wx.heap.size, 0, none⟩ = some (.int .i64 (resM s D k).kind) := (y1 0).trans rfl
      have y11 : (wx.alloc (.cells #[.int .i64 (resM s D k).kind, .int .i64 (resM s D k).n, .slice Au (resM s D k).uses.length cu, .int .i64 (resM s D k).copy] 91)).cell? ⟨wx.heap.size, 1, none⟩ = some (.int .i64 (resM s D k).n) := (y1 1).trans rfl
      have HO3 := HO.below hb3
      have HC3 := HC.trans (Chg.of_below (A := fun q => q = go) hb3)
      obtain ⟨t0, t1, hfr⟩ := HO3.two_at (f := fun x => .int .i64 x.1) (h2 := fun x => .int .i64 x.2) rfl (fun h => srt_open h) (k := k) (by rw [hlS]; exact hkt)
      have hP := (HO3.put (G := fun _ => False) rfl (i := k) (by rw [hlS]; exact hkt) (srt_mk _ _ (srtR D k)) (fun _ h => h.elim)).mono (G := fun q => q = go) (fun q hq => hq.elim id (fun h => h.elim))
      rw [hset.out _ rfl] at hP
      have HCP := HC3.trans (putRow_chg go [.int .i64 (srtR D k).1, .int .i64 (srtR D k).2] _ (k * 2))
      clear HO HO3 HC HC3 y1 hset
      go_wp2
      go_roundw
      case rel => exact ⟨k + 1, by omega, by go_num, hP, HCP⟩
      case measure => simp [intOf]; omega
    · obtain rfl : k = L.length := by omega
      have hHc3 : Hid (∀ k (hk : k < L.length), ∃ u, MkAt wx bM (oM + k * 4) (resM s D k) u ∧ Rp.Rd Rp.int wx (fun q => q < go) u (resM s D k).uses) := Lib.hid (fun k hk => by
        obtain ⟨u, h1, h2⟩ := hHcM2.out k hk
        rw [hgM.out k hk hk] at h1 h2
        have hcl : ∀ (o : Nat) (x : Value), W2.cell? ⟨bM, o, none⟩ = some x → wx.cell? ⟨bM, o, none⟩ = some x := fun o x h => (Rp.cell_move (HC.block bM (blk_of_cell h) (by show ¬ bM = go; omega)) o).trans h
        exact ⟨u, ⟨hcl _ _ h1.c0, hcl _ _ h1.c1, hcl _ _ h1.c2, hcl _ _ h1.c3⟩, h2.move (HC.same (fun q hq h => by have hq : q < go := hq; have h : q = go := h; omega))⟩)
      have hBx := hRet.out _ HC
      have hsx := hBx.size
      have hgx : go < wx.heap.size := by have := HC.size; omega
      have hfin : srtsL D L.length L.length = (List.range L.length).map (srtR D) := by unfold srtsL; exact upd_all
      have hN1' := numberedSrt_calls ((List.range L.length).map (srtR D)) (.slice (some ⟨go, 0, none⟩) L.length L.length) wx (by rw [← hfin]; exact HO.rd) (fun x hx => by
        obtain ⟨v, hv, rfl⟩ := List.mem_map.1 hx
        exact Hin.out v (List.mem_range.1 hv)) (by simp; omega)
      replace hN1' := Lib.hid hN1'
      clear HO HC hHcM2 hRet hB2 hfin Hin
      go_wp2_with fail
      refine hN1'.out.mono ?_
      rintro e w4 ⟨v4, rfl, hO4, hb4⟩
      have hB4 := below_then hBx hb4
      have hHc4 : Hid (∀ k (hk : k < L.length), ∃ u, MkAt w4 bM (oM + k * 4) (resM s D k) u ∧ Rp.Rd Rp.int w4 (fun q => q < go) u (resM s D k).uses) := Lib.hid (fun k hk => by
        obtain ⟨u, h1, h2⟩ := hHc3.out k hk
        exact ⟨u, h1.below hb4, h2.below hb4⟩)
      have hO5 : Ow true 3 Rp.int w4 (fun q => w.heap.size ≤ q) v4 (intsN (nowI L.length (srtR D) (usR s D) 0)) := hO4.mono (fun q hq => Nat.le_trans hsx hq)
      have hc0 : Hid ((firsts ((List.range L.length).map (srtR D))).length = cntI L.length (srtR D) (usR s D) 0) := Lib.hid rfl
      rw [hc0.out]
      have hgo4 : go < w4.heap.size := by have := hb4.size; omega
      clear hN1' hO4 hb4 hHc3 hBx hsx hgx hc0
      go_wp2_with fail
      go_loopw [8, 9, 10] (fun nv cv rv wr => ∃ (t : Nat) (vn : Value), vn = nv ∧ cv = .int .i64 (cntI L.length (srtR D) (usR s D) t : Nat) ∧ rv = .int .i64 (t : Nat) ∧ Ow true 3 Rp.int wr (fun q => w.heap.size ≤ q) vn (intsN (nowI L.length (srtR D) (usR s D) t)) ∧ t ≤ cntI L.length (srtR D) (usR s D) t ∧ Hid (∀ q, q < t → ¬ StopI L.length (srtR D) (usR s D) q) ∧ Below w4.heap.size w4 wr) (fun _ _ rv _ => L.length - cntI L.length (srtR D) (usR s D) (intOf rv).toNat)
      case atStart => exact ⟨0, _, rfl, rfl, rfl, hO5, Nat.zero_le _, Lib.hid (fun q hq => by omega), Below.refl _ _⟩
      case round =>
        clear hO5
        obtain ⟨t, vn, rfl, rfl, rfl, HO, htc, HNs, HB⟩ := hrel
        rename World => wa
        have hB5 := below_then hB4 HB
        have hcle := cntI_le (n := L.length) (srt := srtR D) (us := usR s D) (t + 1)
        have hcle0 := cntI_le (n := L.length) (srt := srtR D) (us := usR s D) t
        have hcst := Lib.hid (stopI_lt (N := L.length) (srt := srtR D) (us := usR s D) (t := t))
        have hln := nowI_len (n := L.length) (srt := srtR D) (us := usR s D) t
        have hlt := Lib.hid (fun v (hv : v < L.length) => nowI_lt (n := L.length) (srt := srtR D) (us := usR s D) t hv)
        have hNx : Hid (nowI L.length (srtR D) (usR s D) (t + 1) = numL ((List.range L.length).map (keyI (usR s D) (nowI L.length (srtR D) (usR s D) t)))) := Lib.hid rfl
        have hCx : Hid (cntI L.length (srtR D) (usR s D) (t + 1) = (firsts ((List.range L.length).map (keyI (usR s D) (nowI L.length (srtR D) (usR s D) t)))).length) := Lib.hid rfl
        have hkT := Lib.hid (fun k (hk : k < L.length) m (hm : m = keyI (usR s D) (nowI L.length (srtR D) (usR s D) t) k) => (show (keysT s D L.length t k).set k m = keysT s D L.length t (k + 1) from upd_set hk hm))
        have hkE := Lib.hid (fun k => keyI_eq s D (nowI L.length (srtR D) (usR s D) t) k)
        have hO6 := ow_alloc (e := 178) (r := grpK) (n := L.length) (z := #[.int .i64 0, .string ByteArray.empty]) (x0 := (0, [])) wa (by omega) rfl (by decide) (fun _ => grp_mk _ _ (0, []))
        have hb6 := below_new (w := wa) (.cells (madeCells #[.int .i64 0, .string ByteArray.empty] (L.length * 2)) 178)
        have hz6 : (wa.alloc (.cells (madeCells #[.int .i64 0, .string ByteArray.empty] (L.length * 2)) 178)).heap.size = wa.heap.size + 1 := by simp
        obtain ⟨NW, hNW⟩ : ∃ NW, NW = nowI L.length (srtR D) (usR s D) t := ⟨_, rfl⟩
        rw [← hNW] at HO hln hlt hNx hCx hkT hkE
        have hNWe := Lib.hid hNW
        clear hNW
        have hNl1 : NW.length ≤ L.length := by omega
        have hNl2 : L.length ≤ NW.length := by omega
        have hil := intsN_len NW
        obtain ⟨An, cn, hvne, _, _, hrn⟩ := rd_int HO.rd
        rw [hil] at hvne
        subst hvne
        rcases hrn with hn | ⟨bn, on, rfl, hbn, hcn⟩
        · have := congrArg List.length hn
          rw [hil, List.length_nil] at this
          omega
        have hcn2 : Hid (∀ k (hk : k < L.length), wa.cell? ⟨bn, on + k, none⟩ = some (.int .i64 ((NW.getD k 0 : Nat) : Int))) := Lib.hid (fun k hk => by
          have h1 := hcn k (by omega)
          have e : (intsN NW)[k]'(by omega) = ((NW.getD k 0 : Nat) : Int) := by
            unfold intsN
            rw [List.getElem_map, List.getD_eq_getElem?_getD, List.getElem?_eq_getElem (by omega)]
            rfl
          rw [e] at h1
          exact h1)
        clear hcn
        replace hln := Lib.hid hln
        replace hil := Lib.hid hil
        replace HO := HO.bound
        go_wp2_with fail
        obtain ⟨W6, hW6⟩ : ∃ W6, W6 = wa.alloc (.cells (madeCells #[.int .i64 0, .string ByteArray.empty] (L.length * 2)) 178) := ⟨_, rfl⟩
        have hO7 : Ow true 178 grpK W6 (fun q => q = wa.heap.size) (.slice (some ⟨wa.heap.size, 0, none⟩) L.length L.length) (keysT s D L.length t 0) := by rw [hW6]; unfold keysT; rw [upd_zero]; exact hO6
        rw [← hW6] at hb6 hz6 ⊢
        clear hW6 hO6
        obtain ⟨g2, hg2⟩ : ∃ g2, g2 = wa.heap.size := ⟨_, rfl⟩
        rw [← hg2] at hO7 ⊢
        have hB6 := below_then hB5 hb6
        have hB6o := below_then HB hb6
        have hsa := HB.size
        have HO6 := (HO.mono (G := fun q => w.heap.size ≤ q ∧ q < g2) (fun q hq => ⟨hq.1, by have := hq.2; omega⟩)).below hb6
        have hgo6 : go < g2 := by omega
        have hgg2 : g2 < W6.heap.size := by omega
        have hgw2 : w.heap.size ≤ g2 := by have := hB5.size; omega
        have hgw4 : w4.heap.size ≤ g2 := by omega
        have hHc6 : Hid (∀ k (hk : k < L.length), ∃ u, MkAt W6 bM (oM + k * 4) (resM s D k) u ∧ Rp.Rd Rp.int W6 (fun q => q < go) u (resM s D k).uses) := Lib.hid (fun k hk => by
          obtain ⟨u, h1, h2⟩ := hHc4.out k hk
          exact ⟨u, h1.below hB6o, h2.below hB6o⟩)
        have hcn6 : Hid (∀ k (hk : k < L.length), W6.cell? ⟨bn, on + k, none⟩ = some (.int .i64 ((NW.getD k 0 : Nat) : Int))) := Lib.hid (fun k hk => cell_below hb6 (hcn2.out k hk))
        have hbn2 : bn < g2 := by omega
        clear hb6 hg2 hB5 hz6 HO hcn2
        go_loopw [49] (fun i wr => ∃ k : Nat, k ≤ L.length ∧ i = .int .i64 k ∧ Ow true 178 grpK wr (fun q => q = g2) (.slice (some ⟨g2, 0, none⟩) L.length L.length) (keysT s D L.length t k) ∧ Chg (fun q => q = g2) W6 wr) (fun i _ => L.length - (intOf i).toNat)
        case atStart => exact ⟨0, Nat.zero_le _, rfl, hO7, Chg.refl _ _⟩
        case round =>
          clear hO7
          obtain ⟨k, hk, rfl, HO, HC⟩ := hrel
          rename World => wb
          by_cases hkt : k < L.length
          · have k0 : (0 : Int) ≤ (k : Int) := Int.natCast_nonneg _
            have k1 : (k : Int) < (L.length : Int) := by omega
            obtain ⟨u, hu1, hu2⟩ := hHc6.out k hkt
            have hcl : ∀ (bq o : Nat) (x : Value), bq < g2 → W6.cell? ⟨bq, o, none⟩ = some x → wb.cell? ⟨bq, o, none⟩ = some x := fun bq o x hq h => (Rp.cell_move (HC.block bq (blk_of_cell h) (by show ¬ bq = g2; omega)) o).trans h
            have z0 := hcl _ _ _ (by omega) hu1.c0
            have z1 := hcl _ _ _ (by omega) hu1.c1
            have z2 := hcl _ _ _ (by omega) hu1.c2
            have z3 := hcl _ _ _ (by omega) hu1.c3
            have hu3 := hu2.move (HC.same (fun q hq h => by have hq : q < go := hq; have h : q = g2 := h; omega))
            have hcnb : Hid (∀ k (hk : k < L.length), wb.cell? ⟨bn, on + k, none⟩ = some (.int .i64 ((NW.getD k 0 : Nat) : Int))) := Lib.hid (fun k hk => hcl _ _ _ hbn2 (hcn6.out k hk))
            have hpi := Lib.hid (Hpin.out k hkt)
            have hpl := Hpl.out k hkt
            have hke := Lib.hid (hkE.out k)
            have hur : (resM s D k).uses = partsD s D (rootD D k) := rfl
            rw [hur] at hu3
            have hlS := keysT_len s D L.length t k
            have hset := Lib.hid (hkT.out k hkt)
            obtain ⟨us, hus⟩ : ∃ us, us = partsD s D (rootD D k) := ⟨_, rfl⟩
            rw [← hus] at hu3 hpi hpl hke
            obtain ⟨rm, hrm⟩ : ∃ rm, rm = resM s D k := ⟨_, rfl⟩
            rw [← hrm] at z0 z1 z3 hur
            have hru : rm.uses = us := by rw [hur, hus]
            clear hcl hu1 hu2 hrm hus hur
            subst hru
            obtain ⟨Au, cu, rfl, _, _, hrU⟩ := rd_int hu3
            have hb7 := below_new (w := wb) (.cells #[.int .i64 rm.kind, .int .i64 rm.n, .slice Au rm.uses.length cu, .int .i64 rm.copy] 91)
            have x7 := heap_alloc_new wb (.cells #[.int .i64 rm.kind, .int .i64 rm.n, .slice Au rm.uses.length cu, .int .i64 rm.copy] 91)
            have hz7 : (wb.alloc (.cells #[.int .i64 rm.kind, .int .i64 rm.n, .slice Au rm.uses.length cu, .int .i64 rm.copy] 91)).heap.size = wb.heap.size + 1 := by simp
            obtain ⟨W7, hW7⟩ : ∃ W7, W7 = wb.alloc (.cells #[.int .i64 rm.kind, .int .i64 rm.n, .slice Au rm.uses.length cu, .int .i64 rm.copy] 91) := ⟨_, rfl⟩
            have hb8 := below_new (w := W7) (.cells #[] 5)
            have hO8 := (ow_empty (r := b8) (ap := true) (heap_alloc_new W7 (.cells #[] 5))).mono (G := fun q => wb.heap.size < q) (fun q hq => by have hq : q = W7.heap.size := hq; rw [hW7] at hq; rw [hz7] at hq; omega)
            have x8 : (W7.alloc (.cells #[] 5)).heap[wb.heap.size]? = some (.cells #[.int .i64 rm.kind, .int .i64 rm.n, .slice Au rm.uses.length cu, .int .i64 rm.copy] 91 (0, 0)) := blk_below (by rw [hW7]; exact x7) hb8
            have hb9 : Below wb.heap.size wb (W7.alloc (.cells #[] 5)) := below_then (by rw [hW7]; exact hb7) hb8
            rw [hW7] at hO8 x8 hb9
            have hsz7 : W7.heap.size = wb.heap.size + 1 := by rw [hW7]; exact hz7
            clear hb7 x7 hb8 hW7
            obtain ⟨y1, _⟩ := cell_of_block x8
            have y12 := (y1 2).trans rfl
            clear y1
            go_wp2_with fail
            obtain ⟨W8, hW8⟩ : ∃ W8, W8 = (wb.alloc (.cells #[.int .i64 rm.kind, .int .i64 rm.n, .slice Au rm.uses.length cu, .int .i64 rm.copy] 91)).alloc (.cells #[] 5) := ⟨_, rfl⟩
            rw [← hW8] at hO8 x8 hb9 ⊢
            rw [hz7] at hO8
            clear hW8 y12 z0 z1 z2 z3 hsz7 hz7
            have hO9 : Ow true 5 b8 W8 (fun q => wb.heap.size < q) (.slice (some ⟨wb.heap.size + 1, 0, none⟩) 0 0) (byteL NW (rm.uses.take 0)) := hO8
            clear hO8
            go_loopw [14, 58] (fun bv i wr => ∃ (m g c : Nat), bv = .slice (some ⟨g, 0, none⟩) m c ∧ m ≤ rm.uses.length ∧ i = .int .i64 m ∧ Ow true 5 b8 wr (fun q => wb.heap.size < q) (.slice (some ⟨g, 0, none⟩) m c) (byteL NW (rm.uses.take m)) ∧ Below wb.heap.size wb wr ∧ wr.heap[wb.heap.size]? = some (.cells #[.int .i64 rm.kind, .int .i64 rm.n, .slice Au rm.uses.length cu, .int .i64 rm.copy] 91 (0, 0))) (fun _ i _ => rm.uses.length - (intOf i).toNat)
            case atStart => exact ⟨0, _, _, rfl, Nat.zero_le _, rfl, hO9, hb9, x8⟩
            case round =>
              clear hO9 hb9 x8
              obtain ⟨m, g, cg, rfl, hm, rfl, HOb, HBb, xb⟩ := hrel
              rename World => wc
              by_cases hmt : m < rm.uses.length
              · rcases hrU with hn | ⟨bu, ou, rfl, hbu, hcu⟩
                · rw [hn] at hmt; simp at hmt
                have cm := cell_below HBb (hcu m hmt)
                have hpm := hpi.out _ (List.getElem_mem hmt)
                have hbt := Lib.hid (byteL_take (now := NW) hmt)
                clear hcu
                obtain ⟨x, hx⟩ : ∃ x, x = rm.uses[m] := ⟨_, rfl⟩
                rw [← hx] at cm hpm hbt
                clear hx
                obtain ⟨x, rfl⟩ := Int.eq_ofNat_of_zero_le hpm.1
                have hxN : x < L.length := by omega
                have cx := cell_below HBb (hcnb.out x hxN)
                rw [Int.toNat_natCast] at hbt
                have hyl := hlt.out x hxN
                obtain ⟨y, hy⟩ : ∃ y, y = NW.getD x 0 := ⟨_, rfl⟩
                rw [← hy] at cx hbt
                have hy256 : y < 256 := by
                  have h1 := hlt.out x hxN
                  rw [← hy] at h1
                  omega
                clear hy hyl
                have hy0 : (0 : Int) ≤ (y : Int) := Int.natCast_nonneg _
                have hy1 : (y : Int) ≤ 255 := by omega
                have m0 : (0 : Int) ≤ (m : Int) := Int.natCast_nonneg _
                have m1 : (m : Int) < (rm.uses.length : Int) := by omega
                have x0 : (0 : Int) ≤ (x : Int) := Int.natCast_nonneg _
                have x1 : (x : Int) < (NW.length : Int) := by omega
                have hlb : (byteL NW (rm.uses.take m)).length = m := by unfold byteL; simp; omega
                have hyv := u8_toNat hy256
                replace hlb := Lib.hid hlb
                replace hyv := Lib.hid hyv
                have hK8 : ∀ W' G, b8.K W' G (UInt8.ofNat y) [Value.int .u8 (y : Int)] := fun W' G => by show [_] = [_]; dsimp only; rw [hyv.out]
                replace hK8 := Lib.hid hK8
                obtain ⟨bl, hbl⟩ : ∃ bl, bl = byteL NW (rm.uses.take m) := ⟨_, rfl⟩
                rw [← hbl] at HOb hbt hlb
                clear hbl
                go_wp2_with (at_builtin; (refine ow_append1 (r := b8) (G := fun _ => False) (us := [.int .u8 (y : Int)]) (by rfl) _ _ 176 (.int .u8 0) 1 (by rfl) Try.underlying176 infoB8 rfl (by decide) (by omega) _ bl (UInt8.ofNat y) (by rfl) (by rfl) HOb (hK8.out _ _) (fun _ h => h.elim) (by have := hlb.out; omega) ?_; intro v9 w9 HO9 hg9))
                obtain ⟨g9, c9, hv9, _⟩ := HO9.some_form (by simp)
                rw [List.length_append, hlb.out] at hv9
                subst hv9
                have HBd := below_grown HBb hg9 (fun q hq => by have := own_in HOb (.inr hq); omega) HBb.size
                have xd := grown_blk hg9 xb (own_ne HOb (by omega))
                have HOd := HO9.mono (G := fun q => wb.heap.size < q) (fun q hq => by have h1 := HBb.size; rcases hq with hq | hq | hq; exact hq; exact hq.elim; have := blk_lt xb; omega)
                rw [← hbt.out] at HOd
                clear HO9 hg9 HOb HBb xb hbt hlb hK8 hyv
                go_roundw
                case rel => exact ⟨m + 1, g9, c9, rfl, by omega, by go_num, HOd, HBd, xd⟩
                case measure => simp [intOf]; omega
              · obtain rfl : m = rm.uses.length := by omega
                rw [List.take_length] at HOb
                have HO3 := HO.below HBb
                obtain ⟨t0, t1, hfr⟩ := HO3.two_at (f := fun x => .int .i64 (x.1 : Nat)) (h2 := fun x => .string ⟨x.2.toArray⟩) rfl (fun h => grp_open h) (k := k) (by rw [hlS]; exact hkt)
                have hP := (HO3.put (G := fun _ => False) rfl (i := k) (by rw [hlS]; exact hkt) (grp_mk _ _ (NW.getD k 0, byteL NW rm.uses)) (fun _ h => h.elim)).mono (G := fun q => q = g2) (fun q hq => hq.elim id (fun h => h.elim))
                rw [hset.out _ hke.out.symm] at hP
                have HC3 := HC.trans (Chg.of_below (A := fun q => q = g2) HBb)
                have cN := cell_below HBb (hcnb.out k hkt)
                have hcv := conv_b8 HOb
                have hcvd := conv_b8 (W := wc.drew) (HOb.move (fun q _ _ => rfl))
                obtain ⟨y, hy⟩ : ∃ y, y = NW.getD k 0 := ⟨_, rfl⟩
                obtain ⟨bl, hbl⟩ : ∃ bl, bl = byteL NW rm.uses := ⟨_, rfl⟩
                rw [← hy] at hP cN
                rw [← hbl] at hP hcv hcvd
                have HCP := HC3.trans (putRow_chg g2 [.int .i64 (y : Nat), .string ⟨bl.toArray⟩] _ (k * 2))
                clear HO HO3 HC HC3 HOb HBb xb hset hke hy hbl hcnb hpi
                have k2' : (k : Int) < (NW.length : Int) := by omega
                go_wp2_with fail
                go_region
                go_wp2
                go_roundw
                case rel => exact ⟨k + 1, by omega, by go_num, hP, HCP.trans (Chg.of_below (below_drew (Below.refl _ _)))⟩
                case measure => simp [intOf]; omega
          · obtain rfl : k = L.length := by omega
            have hfin : keysT s D L.length t L.length = (List.range L.length).map (keyI (usR s D) NW) := by unfold keysT; rw [← hNWe.out]; exact upd_all
            have hBx := HC.to_below hB6 hB6.size (fun q hq => by have hq : q = g2 := hq; omega)
            have hBo := HC.to_below hB6o hB6o.size (fun q hq => by have hq : q = g2 := hq; omega)
            have hsx := hBx.size
            have hn2 := numberedGrp_calls ((List.range L.length).map (keyI (usR s D) NW)) (.slice (some ⟨g2, 0, none⟩) L.length L.length) wb (by rw [← hfin]; exact HO.rd) (fun x hx => by
              obtain ⟨v, hv, rfl⟩ := List.mem_map.1 hx
              have hv := List.mem_range.1 hv
              rw [hkE.out v]
              have h1 := hlt.out v hv
              have h2 := Hpl.out v hv
              refine ⟨by show NW.getD v 0 ≤ 1000000; omega, ?_⟩
              show (byteL NW (partsD s D (rootD D v))).length ≤ 1000000000
              unfold byteL
              rw [List.length_map]
              omega) (by simp; omega)
            rw [← hNx.out, ← hCx.out] at hn2
            replace hn2 := Lib.hid hn2
            have HOn := HO6.move (HC.same (fun q hq h => by have h1 := hq.2; have h : q = g2 := h; omega))
            obtain ⟨c1, hc1⟩ : ∃ c1, c1 = cntI L.length (srtR D) (usR s D) (t + 1) := ⟨_, rfl⟩
            have hc1e := Lib.hid hc1
            rw [← hc1] at hn2 hcle hcst
            clear HO HC hfin hHc6 hcn6 hB6 hB6o hc1 HO6 hHc4 hB4 HB hkT hkE hlt hNx hCx
            go_wp2_with fail
            refine hn2.out.mono ?_
            rintro e w8 ⟨v8, rfl, hO8, hb8⟩
            have hBy := below_then hBx hb8
            have hBz := below_then hBo hb8
            have HOm := HOn.below hb8
            clear hn2 hBx hBo hb8 HOn
            by_cases hst : c1 = cntI L.length (srtR D) (usR s D) t
            · have hq : (c1 : Int) = (cntI L.length (srtR D) (usR s D) t : Int) := by rw [hst]
              have hF : First (StopI L.length (srtR D) (usR s D)) t := ⟨by unfold StopI; rw [← hc1e.out]; exact hst, HNs.out⟩
              replace hF := Lib.hid hF
              have hNWl := Lib.hid (show NW.length = (nowI L.length (srtR D) (usR s D) t).length from congrArg List.length hNWe.out)
              rw [hNWe.out] at HOm
              replace HOm := HOm.mono (G := fun q => w.heap.size ≤ q) (fun q hq => hq.1)
              clear hst hc1e HNs hcst hNWe
              go_wp2
              refine bodyPost_ret (v := .tuple #[.slice (some ⟨bn, on, none⟩) NW.length cn, .int .i64 (t : Nat)]) (by simp [results, Try.results63, go_sem]) rfl ?_
              exact ⟨_, t, rfl, by rw [hNWl.out]; exact HOm, hF.out, hBy⟩
            · have hq : ¬ (c1 : Int) = (cntI L.length (srtR D) (usR s D) t : Int) := fun h => hst (by omega)
              have hN9 : Hid (∀ q, q < t + 1 → ¬ StopI L.length (srtR D) (usR s D) q) := Lib.hid (fun q hq1 => by
                by_cases hqt : q < t
                · exact HNs.out q hqt
                · obtain rfl : q = t := by omega
                  unfold StopI
                  rw [← hc1e.out]
                  exact hst)
              have hlt9 := hcst.out (by unfold StopI; rw [← hc1e.out]; exact hst)
              have HOq := hO8.mono (G := fun q => w.heap.size ≤ q) (fun q hq => Nat.le_trans hsx hq)
              have hfin : Hid (∀ r : Int, r = (t : Int) + 1 → L.length - cntI L.length (srtR D) (usR s D) r.toNat < L.length - cntI L.length (srtR D) (usR s D) t) := Lib.hid (fun r hr => by
                have : r.toNat = t + 1 := by omega
                rw [this, ← hc1e.out]
                omega)
              clear hst HNs hcst hNWe hO8 HOm
              have t0 : (0 : Int) ≤ (t : Int) := Int.natCast_nonneg _
              go_wp2_with fail
              go_roundw
              case rel => exact ⟨t + 1, _, rfl, by rw [← hc1e.out], by go_num, HOq, by rw [← hc1e.out]; omega, hN9, hBz⟩
              case measure => exact hfin.out _ (by simp [intOf])
end Go.Proofs.Ytnfaibenekninaa.L

set_option linter.unusedVariables false
set_option linter.unusedSimpArgs false
namespace Go.Proofs.Ytnfaibenekninaa.L
open Go.RowKit
open Classical in
/-- The first round behind which nothing changes. -/
noncomputable def roundsN (s : Sa) (N : Nat) : Nat := if h : ∃ t, First (StopS N (sortD (dfAll s)) (usD s (dfAll s)) (rootD (dfAll s))) t then Classical.choose h else 0
theorem rounds_S {s : Sa} {N t : Nat} (h : First (StopS N (sortD (dfAll s)) (usD s (dfAll s)) (rootD (dfAll s))) t) : t = roundsN s N := by
  have hx : ∃ t, First (StopS N (sortD (dfAll s)) (usD s (dfAll s)) (rootD (dfAll s))) t := ⟨t, h⟩
  unfold roundsN
  rw [dif_pos hx]
  exact First.uniq (fun _ => Iff.rfl) h (Classical.choose_spec hx)
theorem grp_okN {s : Sa} (h : GoodP s) {N : Nat} (hN : (N : Int) = s.values) : Grp N (sortD (dfAll s)) (usD s (dfAll s)) (rootD (dfAll s)) := by
  have := grp_ok h
  rwa [show s.values.toNat = N by omega] at this
theorem rounds_I {s : Sa} (hg : GoodP s) {N t : Nat} (hN : (N : Int) = s.values) (h : First (StopI N (srtR (dfAll s)) (usR s (dfAll s))) t) : t = roundsN s N := by
  have hG := grp_okN hg hN
  exact rounds_S ⟨(stop_iff hG t).1 h.1, fun q hq hs => h.2 q hq ((stop_iff hG q).2 hs)⟩
/-- The groups. -/
noncomputable def grpL (s : Sa) (N : Nat) : List Nat := nowI N (srtR (dfAll s)) (usR s (dfAll s)) (roundsN s N)
theorem grp_S {s : Sa} (hg : GoodP s) {N : Nat} (hN : (N : Int) = s.values) : numL (keyN s (dfAll s) N (roundsN s N)) = grpL s N := num_is (grp_okN hg hN) _
theorem grpL_len (s : Sa) (N : Nat) : (grpL s N).length = N := nowI_len _
theorem grpL_lt {s : Sa} {N v : Nat} (hv : v < N) : (grpL s N).getD v 0 < N := Nat.lt_of_lt_of_le (nowI_lt _ hv) (cntI_le _)
theorem grpL_mem {s : Sa} {N x : Nat} (hx : x ∈ grpL s N) : x < N := by
  obtain ⟨i, hi, rfl⟩ := List.getElem_of_mem hx
  have h1 : i < N := by rw [grpL_len] at hi; exact hi
  have := grpL_lt (s := s) h1
  rwa [List.getD_eq_getElem?_getD, List.getElem?_eq_getElem hi] at this
/-- The greatest of a list. -/
def mxN (l : List Nat) : Nat := l.foldl max 0
def mx1 (l : List Nat) : Nat := l.foldl (fun m n => max m (n + 1)) 0
theorem mxN_snoc (l : List Nat) (x : Nat) : mxN (l ++ [x]) = max (mxN l) x := by unfold mxN; rw [List.foldl_append]; rfl
theorem mx1_snoc (l : List Nat) (x : Nat) : mx1 (l ++ [x]) = max (mx1 l) (x + 1) := by unfold mx1; rw [List.foldl_append]; rfl
theorem mx1_eq {l : List Nat} (h : l ≠ []) : mx1 l = mxN l + 1 := by
  have : ∀ (l : List Nat) (a : Nat), l.foldl (fun m n => max m (n + 1)) (a + 1) = l.foldl max a + 1 := by
    intro l
    induction l with
    | nil => intro a; rfl
    | cons x l ih =>
      intro a
      simp only [List.foldl_cons]
      rw [show max (a + 1) (x + 1) = max a x + 1 by omega]
      exact ih _
  cases l with
  | nil => exact absurd rfl h
  | cons x l =>
    unfold mx1 mxN
    simp only [List.foldl_cons]
    rw [show max 0 (x + 1) = max 0 x + 1 by omega]
    exact this l _
theorem mxN_take {l : List Nat} {k : Nat} (hk : k < l.length) : mxN (l.take (k + 1)) = max (mxN (l.take k)) l[k] := by
  rw [List.take_succ_eq_append_getElem hk, mxN_snoc]
theorem mx1_take {l : List Nat} {k : Nat} (hk : k < l.length) : mx1 (l.take (k + 1)) = max (mx1 (l.take k)) (l[k] + 1) := by
  rw [List.take_succ_eq_append_getElem hk, mx1_snoc]
theorem mxN_one {l : List Nat} (h : 0 < l.length) : mxN (l.take 1) = l[0] := by
  rw [mxN_take (k := 0) h]
  simp [mxN]
theorem mxN_le {l : List Nat} {b : Nat} (h : ∀ x ∈ l, x ≤ b) : mxN l ≤ b := by
  have : ∀ (l : List Nat) (a : Nat), a ≤ b → (∀ x ∈ l, x ≤ b) → l.foldl max a ≤ b := by
    intro l
    induction l with
    | nil => intro a ha _; exact ha
    | cons x l ih => intro a ha hl; exact ih _ (by have := hl x (by simp); omega) (fun y hy => hl y (by simp [hy]))
  exact this l 0 (Nat.zero_le _) h
/-- A number, nought where the ssa is no good. -/
def numG (n : Nat) (g : Bool) (v : Int) : Prop := v = if g = true then (n : Int) else 0
theorem numG.uniq {n : Nat} (g : Bool) (v v' : Int) (h : numG n g v) (h' : numG n g v') : v = v' := h.trans h'.symm
/-- What is told of two values. -/
def sameP (s : Sa) (a b : Int) (g v : Bool) : Prop := v = (g && decide ((grpL s s.values.toNat).getD a.toNat 0 = (grpL s s.values.toNat).getD b.toNat 0))
theorem sameP.uniq {s : Sa} {a b : Int} (g v v' : Bool) (h : sameP s a b g v) (h' : sameP s a b g v') : v = v' := h.trans h'.symm
def inV (s : Sa) (a b : Int) : Prop := 0 ≤ a ∧ a < s.values ∧ 0 ≤ b ∧ b < s.values
end Go.Proofs.Ytnfaibenekninaa.L

set_option linter.unusedVariables false
namespace Go.Proofs.Ytnfaibenekninaa.L
open Go.RowKit
inductive BoolRes (G : Prop) (P : Bool → Bool → Prop) (w : World) (e : Ending) (w' : World) : Prop where
  | mk (g v : Bool) (hg : Hid (g = true ↔ G)) (hv : Hid (P g v)) (he : e = .returned (.tuple #[.bool v, .bool g])) (hb : Below w.heap.size w w') : BoolRes G P w e w'
inductive IntRes (G : Prop) (P : Bool → Int → Prop) (w : World) (e : Ending) (w' : World) : Prop where
  | mk (g : Bool) (v : Int) (hg : Hid (g = true ↔ G)) (hv : Hid (P g v)) (he : e = .returned (.tuple #[.int .i64 v, .bool g])) (hb : Below w.heap.size w w') : IntRes G P w e w'
/-- A truth that is told where the ssa is good. -/
def TellP (P : Prop) (g v : Bool) : Prop := (v = true ↔ g = true ∧ P)
theorem TellP.uniq {P : Prop} (g v v' : Bool) (h : TellP P g v) (h' : TellP P g v') : v = v' := by
  have := h.trans h'.symm
  cases v <;> cases v' <;> simp_all
end Go.Proofs.Ytnfaibenekninaa.L

set_option linter.unusedVariables false
set_option linter.unusedSimpArgs false
namespace Go.Proofs.Ytnfaibenekninaa.L
open Go.RowKit
/-- A list of an ssa, and whether it is good. -/
inductive ListRes (G : Prop) (L : List Int) (w : World) (e : Ending) (w' : World) : Prop where
  | mk (g : Bool) (v : Value) (hg : Hid (g = true ↔ G)) (he : e = .returned (.tuple #[v, .bool g])) (hv : Ow true 3 Rp.int w' (fun q => w.heap.size ≤ q) v (if g = true then L else [])) (hb : Below w.heap.size w w') : ListRes G L w e w'
theorem zeroInt (w : World) : (zeroValue 3).run Try.prog w = .ok (.int .i64 0) w := by
  obtain ⟨i, hi, hzz⟩ := Option.map_eq_some_iff.1 infoInt
  simp only [Prod.mk.injEq] at hzz
  simp [zeroValue, typeInfo, hi, hzz.1]
theorem setCells_chg (g : Nat) : ∀ (vs : List Value) (o : Nat) (w : World), Chg (fun q => q = g) w (w.setCells g o vs)
  | [], _, w => Chg.refl _ _
  | v :: r, o, w => (Chg.set (A := fun q => q = g) rfl).trans (setCells_chg g r (o + 1) (w.setCell ⟨g, o, none⟩ v))
theorem setInts_ow {ap : Bool} {e g n k : Nat} {F : Nat → Prop} {c : List Int} : ∀ {b a : List Int} {w : World}, Ow ap e Rp.int w F (.slice (some ⟨g, 0, none⟩) n k) (a ++ b ++ c) → True →
    Ow ap e Rp.int (w.setCells g a.length (List.replicate b.length (.int .i64 0))) F (.slice (some ⟨g, 0, none⟩) n k) (a ++ List.replicate b.length 0 ++ c)
  | [], a, w, h, _ => h
  | x :: b, a, w, h, _ => by
    have hs := h.set1 rfl (i := a.length) (by simp) (y := 0) (u := .int .i64 0) rfl
    have he : (a ++ (x :: b) ++ c).set a.length 0 = (a ++ [0]) ++ b ++ c := by simp
    rw [he] at hs
    have := setInts_ow hs trivial
    rw [List.length_append, List.length_singleton] at this
    show Ow ap e Rp.int ((w.setCell ⟨g, a.length, none⟩ (.int .i64 0)).setCells g (a.length + 1) (List.replicate b.length (.int .i64 0))) F _ _
    have e2 : a ++ List.replicate (x :: b).length 0 ++ c = a ++ [0] ++ List.replicate b.length 0 ++ c := by simp [List.replicate_succ]
    rw [e2]
    exact this
end Go.Proofs.Ytnfaibenekninaa.L

set_option linter.unusedVariables false
set_option linter.unusedSimpArgs false
namespace Go.Proofs.Ytnfaibenekninaa.L
open Go.RowKit
/-- A list to be read, and whether the ssa is good. -/
inductive ListRd (G : Prop) (L : List Int) (w : World) (e : Ending) (w' : World) : Prop where
  | mk (g : Bool) (v : Value) (hg : Hid (g = true ↔ G)) (he : e = .returned (.tuple #[v, .bool g])) (hv : Rp.Rd Rp.int w' (fun q => w.heap.size ≤ q) v (if g = true then L else [])) (hb : Below w.heap.size w w') : ListRd G L w e w'
set_option maxRecDepth 100000 in
set_option maxHeartbeats 4000000 in
theorem roundsS_calls {F : Nat → Prop} (s : Sa) (vparts : Value) (w : World) (hs : Rp.Rd part w F vparts s.parts) (hx1 : s.parts.length ≤ 1048576) (hx2 : ∀ p ∈ s.parts, PtLim p) :
    Calls Try.prog 20 #[saV s vparts] w (IntRes (GoodP s) (numG (roundsN s s.values.toNat)) w) := by
  obtain ⟨A, c, rfl, hlc, hcm, hrow⟩ := rd_part hs
  have HG := Lib.hid (fun W (hW : Below w.heap.size w W) => goodS_calls s _ W (hs.below hW) hx1 hx2)
  have HD := Lib.hid (fun W (hW : Below w.heap.size w W) (h : GoodP s) hN => l11Groups_calls s s.values.toNat _ W (hs.below hW) h hx2 hN)
  have HT := Lib.hid (fun t h => rounds_S (s := s) (N := s.values.toNat) (t := t) h)
  unfold saV at HG HD ⊢
  have hB0 : Below w.heap.size w (w.alloc (.cells #[.slice A s.parts.length c, .int .i64 s.values] 31)) := below_new _
  have b0 := heap_alloc_new w (.cells #[.slice A s.parts.length c, .int .i64 s.values] 31)
  generalize roundsN s s.values.toNat = RN at *
  go_enter Try.func20, Try.ntmps20
  go_wp2_with fail
  refine (HG.out _ hB0).mono ?_
  rintro e w1 ⟨g, rfl, hg, hb1⟩
  have hB1 := below_then hB0 hb1
  have b1 := blk_below b0 hb1
  clear hb1 b0 hB0 HG
  cases g
  · go_wp2
    refine bodyPost_ret (v := .tuple #[.int .i64 0, .bool false]) (by simp [results, Try.results20, go_sem]) rfl ?_
    exact .mk false 0 hg (Lib.hid (by unfold numG; rfl)) rfl hB1
  have hgp := Lib.hid (hg.out.1 rfl)
  have hv1 := hgp.out.v1
  obtain ⟨v0, _⟩ := cell_of_block b1
  have x0 : w1.cell? ⟨w.heap.size, 0, none⟩ = some (.slice A s.parts.length c) := (v0 0).trans rfl
  have x1 : w1.cell? ⟨w.heap.size, 1, none⟩ = some (.int .i64 s.values) := (v0 1).trans rfl
  clear v0
  go_wp2_with fail
  refine (HD.out _ hB1 hgp.out (by omega)).mono ?_
  rintro e w2 ⟨vL, t, rfl, hvL, hF, hb2⟩
  obtain rfl := HT.out t hF
  have hB2 := below_then hB1 hb2
  clear x0 x1 hb2 b1 hB1 HD hF hvL hv1
  go_wp2
  refine bodyPost_ret (v := .tuple #[.int .i64 (t : Nat), .bool true]) (by simp [results, Try.results20, go_sem]) rfl ?_
  exact .mk true _ (Lib.hid ⟨fun _ => hgp.out, fun _ => rfl⟩) (Lib.hid (by unfold numG; rfl)) rfl hB2
set_option maxRecDepth 100000 in
set_option maxHeartbeats 4000000 in
theorem groupsS_calls {F : Nat → Prop} (s : Sa) (vparts : Value) (w : World) (hs : Rp.Rd part w F vparts s.parts) (hx1 : s.parts.length ≤ 1048576) (hx2 : ∀ p ∈ s.parts, PtLim p) :
    Calls Try.prog 22 #[saV s vparts] w (ListRd (GoodP s) (intsN (grpL s s.values.toNat)) w) := by
  obtain ⟨A, c, rfl, hlc, hcm, hrow⟩ := rd_part hs
  have HG := Lib.hid (fun W (hW : Below w.heap.size w W) => goodS_calls s _ W (hs.below hW) hx1 hx2)
  have HD := Lib.hid (fun W (hW : Below w.heap.size w W) (h : GoodP s) hN => l11Numbered_calls s s.values.toNat _ W (hs.below hW) h hx2 hN)
  have HT := Lib.hid (fun (h : GoodP s) hN t hF => (show numL (keyN s (dfAll s) s.values.toNat t) = grpL s s.values.toNat by rw [rounds_S (s := s) (N := s.values.toNat) (t := t) hF]; exact grp_S h hN))
  unfold saV at HG HD ⊢
  have hB0 : Below w.heap.size w (w.alloc (.cells #[.slice A s.parts.length c, .int .i64 s.values] 31)) := below_new _
  have b0 := heap_alloc_new w (.cells #[.slice A s.parts.length c, .int .i64 s.values] 31)
  generalize grpL s s.values.toNat = GL at *
  go_enter Try.func22, Try.ntmps22
  go_wp2_with fail
  refine (HG.out _ hB0).mono ?_
  rintro e w1 ⟨g, rfl, hg, hb1⟩
  have hB1 := below_then hB0 hb1
  have b1 := blk_below b0 hb1
  clear hb1 b0 hB0 HG
  cases g
  · go_wp2
    refine bodyPost_ret (v := .tuple #[.slice none 0 0, .bool false]) (by simp [results, Try.results22, go_sem]) rfl ?_
    exact .mk false _ hg rfl (by rw [if_neg (by simp)]; exact (Ow.nil true 3 Rp.int _ _).rd) hB1
  have hgp := Lib.hid (hg.out.1 rfl)
  have hv1 := hgp.out.v1
  obtain ⟨v0, _⟩ := cell_of_block b1
  have x0 : w1.cell? ⟨w.heap.size, 0, none⟩ = some (.slice A s.parts.length c) := (v0 0).trans rfl
  have x1 : w1.cell? ⟨w.heap.size, 1, none⟩ = some (.int .i64 s.values) := (v0 1).trans rfl
  clear v0
  go_wp2_with fail
  refine (HD.out _ hB1 hgp.out (by omega)).mono ?_
  rintro e w2 ⟨vL, t, rfl, hvL, hF, hb2⟩
  rw [HT.out hgp.out (by omega) t hF] at hvL
  replace hvL := hvL.mono (G := fun q => w.heap.size ≤ q) (fun q hq => Nat.le_trans hB1.size hq)
  obtain ⟨AL, cL, rfl, _, _, _⟩ := id hvL
  have hB2 := below_then hB1 hb2
  clear x0 x1 hb2 b1 hB1 HD hF hv1
  go_wp2
  refine bodyPost_ret (v := .tuple #[.slice AL (intsN GL).length cL, .bool true]) (by simp [results, Try.results22, go_sem]) rfl ?_
  exact .mk true _ (Lib.hid ⟨fun _ => hgp.out, fun _ => rfl⟩) rfl (by rw [if_pos rfl]; exact hvL) hB2
theorem groupsR_calls {F : Nat → Prop} (s : Sa) (N vb : Nat) (vparts vn vd vD vT : Value) (w : World) (hv : w.heap[vb]? = some (viewC vparts s.values vn vd vD vT)) (hs : Rp.Rd part w F vparts s.parts) (hg : GoodP s) (hx2 : ∀ p ∈ s.parts, PtLim p) (hNV : (N : Int) = s.values) :
    Calls Try.prog 63 #[.pointer (some ⟨vb, 0, none⟩)] w fun e w' => ∃ v' : Value, e = .returned (.tuple #[v', .int .i64 (roundsN s N : Nat)]) ∧ Ow true 3 Rp.int w' (fun q => w.heap.size ≤ q) v' (intsN (grpL s N)) ∧ Below w.heap.size w w' := by
  refine (groups_calls s N vb vparts vn vd vD vT w hv hs hg hx2 hNV).mono ?_
  rintro e w' ⟨v', t, rfl, hr, hF, hb⟩
  have ht := rounds_I hg hNV hF
  subst ht
  exact ⟨v', rfl, hr, hb⟩
set_option maxRecDepth 100000 in
set_option maxHeartbeats 4000000 in
theorem roundsI_calls {F : Nat → Prop} (s : Sa) (vparts : Value) (w : World) (hs : Rp.Rd part w F vparts s.parts) (hx1 : s.parts.length ≤ 1048576) (hx2 : ∀ p ∈ s.parts, PtLim p) :
    Calls Try.prog 21 #[saV s vparts] w (IntRes (GoodP s) (numG (roundsN s s.values.toNat)) w) := by
  obtain ⟨A, c, rfl, _, _, _⟩ := rd_part hs
  have HC := Lib.hid (fun W (hW : Below w.heap.size w W) => viewOf_calls s _ W (hs.below hW) hx1 hx2)
  have HLv := Lib.hid (fun W (hW : Below w.heap.size w W) (hg : GoodP s) vb vn vd vD vT hv hN => groupsR_calls s s.values.toNat vb (.slice A s.parts.length c) vn vd vD vT W hv (hs.below hW) hg hx2 hN)
  have HQ := Lib.hid (good_iff s)
  unfold saV at HC ⊢
  have hB0 : Below w.heap.size w (w.alloc (.cells #[.slice A s.parts.length c, .int .i64 s.values] 31)) := below_new _
  generalize roundsN s s.values.toNat = RN at *
  generalize grpL s s.values.toNat = GL at *
  go_enter Try.func21, Try.ntmps21
  go_wp2_with fail
  refine (HC.out _ hB0).mono ?_
  rintro e w1 (⟨rfl, hn, hb⟩ | ⟨vb, D, T, M, vn, vd, vD, vT, rfl, hv, hz, hD, hT, hM, hN, hg, hb⟩)
  · have HN : Hid (false = true ↔ GoodP s) := Lib.hid ⟨fun h => Bool.noConfusion h, fun h => absurd (HQ.out.2 h) hn.out⟩
    have hb2 := below_then hB0 hb
    clear hn
    go_wp2
    refine bodyPost_ret (v := .tuple #[.int .i64 0, .bool false]) (by simp [results, Try.results21, go_sem]) rfl ?_
    exact .mk false 0 HN (Lib.hid (by unfold numG; rfl)) rfl hb2
  · have hb2 := below_then hB0 hb
    have hgp := Lib.hid (HQ.out.1 ⟨D, T, M, hg.out⟩)
    have HN : Hid (true = true ↔ GoodP s) := Lib.hid ⟨fun _ => hgp.out, fun _ => rfl⟩
    have hv1 := hg.out.v1
    have hNN : (s.values.toNat : Int) = s.values := by omega
    have HL1 := Lib.hid (HLv.out _ hb2 hgp.out vb vn vd vD vT hv hNN)
    clear hg hT hM hN hD HLv HC hNN hv1
    go_wp2_with fail
    refine HL1.out.mono ?_
    rintro e w2 ⟨vL, rfl, hvL, hb3⟩
    have hB3 := below_then hb2 hb3
    obtain ⟨AL, cL, rfl, _, _⟩ := hvL.form
    clear HL1 hb3 hv hvL
    go_wp2
    refine bodyPost_ret (v := .tuple #[.int .i64 (RN : Nat), .bool true]) (by simp [results, Try.results21, go_sem]) rfl ?_
    exact .mk true _ (Lib.hid ⟨fun _ => HN.out.1 trivial, fun _ => rfl⟩) (Lib.hid (by unfold numG; rfl)) rfl hB3
set_option maxRecDepth 100000 in
set_option maxHeartbeats 4000000 in
theorem groupsI_calls {F : Nat → Prop} (s : Sa) (vparts : Value) (w : World) (hs : Rp.Rd part w F vparts s.parts) (hx1 : s.parts.length ≤ 1048576) (hx2 : ∀ p ∈ s.parts, PtLim p) :
    Calls Try.prog 23 #[saV s vparts] w (ListRes (∃ D T M, GoodV s D T M) (intsN (grpL s s.values.toNat)) w) := by
  obtain ⟨A, c, rfl, _, _, _⟩ := rd_part hs
  have HC := Lib.hid (fun W (hW : Below w.heap.size w W) => viewOf_calls s _ W (hs.below hW) hx1 hx2)
  have HLv := Lib.hid (fun W (hW : Below w.heap.size w W) (hg : GoodP s) vb vn vd vD vT hv hN => groupsR_calls s s.values.toNat vb (.slice A s.parts.length c) vn vd vD vT W hv (hs.below hW) hg hx2 hN)
  have HQ := Lib.hid (good_iff s)
  unfold saV at HC ⊢
  have hB0 : Below w.heap.size w (w.alloc (.cells #[.slice A s.parts.length c, .int .i64 s.values] 31)) := below_new _
  generalize roundsN s s.values.toNat = RN at *
  generalize grpL s s.values.toNat = GL at *
  go_enter Try.func23, Try.ntmps23
  go_wp2_with fail
  refine (HC.out _ hB0).mono ?_
  rintro e w1 (⟨rfl, hn, hb⟩ | ⟨vb, D, T, M, vn, vd, vD, vT, rfl, hv, hz, hD, hT, hM, hN, hg, hb⟩)
  · have HN : Hid (false = true ↔ ∃ D T M, GoodV s D T M) := Lib.hid ⟨fun h => Bool.noConfusion h, fun h => absurd h hn.out⟩
    have hb2 := below_then hB0 hb
    clear hn
    go_wp2
    refine bodyPost_ret (v := .tuple #[.slice none 0 0, .bool false]) (by simp [results, Try.results23, go_sem]) rfl ?_
    exact .mk false _ HN rfl (by rw [if_neg (by simp)]; exact Ow.nil _ _ _ _ _) hb2
  · have hb2 := below_then hB0 hb
    have HN : Hid (true = true ↔ ∃ D T M, GoodV s D T M) := Lib.hid ⟨fun _ => ⟨D, T, M, hg.out⟩, fun _ => rfl⟩
    have hgp := Lib.hid (HQ.out.1 ⟨D, T, M, hg.out⟩)
    have hv1 := hg.out.v1
    have hNN : (s.values.toNat : Int) = s.values := by omega
    have HL1 := Lib.hid (HLv.out _ hb2 hgp.out vb vn vd vD vT hv hNN)
    have hs2 := hb2.size
    clear hg hT hM hN hD HLv HC hNN hv1
    go_wp2_with fail
    refine HL1.out.mono ?_
    rintro e w2 ⟨vL, rfl, hvL, hb3⟩
    have hB3 := below_then hb2 hb3
    replace hvL := hvL.mono (G := fun q => w.heap.size ≤ q) (fun q hq => Nat.le_trans hs2 hq)
    obtain ⟨AL, cL, rfl, _, _⟩ := hvL.form
    clear HL1 hb3 hv
    go_wp2
    refine bodyPost_ret (v := .tuple #[.slice AL (intsN GL).length cL, .bool true]) (by simp [results, Try.results23, go_sem]) rfl ?_
    exact .mk true _ (Lib.hid ⟨fun _ => HN.out.1 trivial, fun _ => rfl⟩) rfl (by rw [if_pos rfl]; exact hvL) hB3
end Go.Proofs.Ytnfaibenekninaa.L
