/- Joined texts, each of which was built by itself: Gr1 Gq1 Uf1 Uf2 Pa1. -/
import Derived.Test.YtnfaibenekninaaGreatFUseFirst5
import Derived.Test.YtnfaibenekninaaGreatFUseFirst4
import Derived.Laws.IdiomStrings
import Derived.Test.YtnfaibenekninaaGreatFUseFirst1
import Derived.Test.YtnfaibenekninaaGreatB7
import Derived.Test.YtnfaibenekninaaGreatB3
import Derived.Test.YtnfaibenekninaaGreatB11
import Derived.Test.YtnfaibenekninaaGreatB1
import Derived.Test.YtnfaibenekninaaGreatB12
set_option linter.unusedVariables false
set_option linter.unusedSimpArgs false
namespace Go.Proofs.YtnfaibenekninaaGreat.L
open Go.RowKit
def srtR (D : List Df) (v : Nat) : Int × Int := sortD D (rootD D v)
def usR (s : Sa) (D : List Df) (v : Nat) : List Nat := usD s D (rootD D v)
theorem sort_in64 {s : Sa} (h : GoodP s) {v : Nat} (hv : v < s.values.toNat) : in64 (sortD (dfAll s) v).1 ∧ in64 (sortD (dfAll s) v).2 := by
  have hv2 := h.v2
  have hn2 := h.n2
  unfold in64 sortD
  rcases df_cases h hv with hd | ⟨h12, q, p, i, hq, hi, hd⟩ | ⟨h12, x, q, p, hq, hx, ho, hd⟩
  · rw [hd]
    unfold df0 fl0
    repeat' split
    all_goals (constructor <;> (dsimp only; omega))
  · rw [hd]
    have hql := (List.getElem?_eq_some_iff.1 hq).1
    unfold fl0
    repeat' split
    all_goals (constructor <;> (dsimp only; omega))
  · rw [hd]
    have hf := static_flat (h.static (List.mem_of_getElem? hq)) x hx
    unfold flatB at hf
    simp only [Bool.and_eq_true, Bool.or_eq_true] at hf
    have hn : 0 ≤ x.n ∧ x.n ≤ 65535 := by
      rcases hf.1.2 with h1 | h1
      · have := h1.2; unfold inB at this; simpa using this
      · have := h1.2; simp at this; omega
    have hdo : 0 ≤ x.dO ∧ x.dO ≤ 9 := by
      rcases hf.2 with h1 | h1
      · have := h1.2; unfold inB at this; simp at this; omega
      · have := h1.2; simp at this; omega
    repeat' split
    all_goals (constructor <;> (dsimp only; omega))
def b8 : Rp UInt8 := Rp.lit (fun b => Value.int .u8 (b.toNat : Int)) (fun _ => rfl)
theorem infoB8 : (Tryz.prog.info? 5).map (fun i => (i.zero, i.size, i.bytes)) = some (some (.int .u8 0), 1, 1) := by kernel_rfl
theorem infoSrt : (Tryz.prog.info? 156).map (fun i => (i.zero, i.size, i.bytes)) = some (some (.agg #[.int .i64 0, .int .i64 0]), 2, 16) := by kernel_rfl
theorem infoGrp : (Tryz.prog.info? 163).map (fun i => (i.zero, i.size, i.bytes)) = some (some (.agg #[.int .i64 0, .string ByteArray.empty]), 2, 24) := by kernel_rfl
theorem u8_toNat {n : Nat} (h : n < 256) : (UInt8.ofNat n).toNat = n := by simp [UInt8.toNat_ofNat', Nat.mod_eq_of_lt h]
theorem stopI_lt {N : Nat} {srt : Nat → Int × Int} {us : Nat → List Nat} {t : Nat} (h : ¬ StopI N srt us t) : cntI N srt us t < cntI N srt us (t + 1) := by
  have := cntI_mono (n := N) (srt := srt) (us := us) t
  unfold StopI at h
  omega
/-- The keys of a round, the first k told. -/
def keysT (s : Sa) (D : List Df) (N t k : Nat) : List (Nat × List UInt8) := (List.range N).map (fun v => if v < k then keyI (usR s D) (nowI N (srtR D) (usR s D) t) v else (0, []))
theorem keysT_len (s : Sa) (D : List Df) (N t k : Nat) : (keysT s D N t k).length = N := by simp [keysT]
/-- The bytes of the groups of what a value uses. -/
def byteL (now : List Nat) (l : List Int) : List UInt8 := l.map (fun u => UInt8.ofNat (now.getD u.toNat 0))
theorem byteL_take {now : List Nat} {l : List Int} {m : Nat} (hm : m < l.length) : byteL now (l.take (m + 1)) = byteL now (l.take m) ++ [UInt8.ofNat (now.getD l[m].toNat 0)] := by
  unfold byteL
  rw [List.take_succ_eq_append_getElem hm, List.map_append]
  rfl
theorem keyI_eq (s : Sa) (D : List Df) (now : List Nat) (v : Nat) : keyI (usR s D) now v = (now.getD v 0, byteL now (partsD s D (rootD D v))) := by
  unfold keyI usR usD byteL
  rw [List.map_map]
  rfl
/-- string(b) of bytes of one's own, that are no nil. -/
theorem conv_b8 {ap : Bool} {W : World} {F : Nat → Prop} {g n c : Nat} {l : List UInt8} (h : Ow ap 5 b8 W F (.slice (some ⟨g, 0, none⟩) n c) l) : (convert 161 9 (.slice (some ⟨g, 0, none⟩) n c)).run Tryz.prog W = .ok (.string ⟨l.toArray⟩) W := by
  obtain rfl := h.len_eq
  refine run_convert_bytes_back W 161 9 5 ⟨g, 0, none⟩ c l Tryz.underlying161 Tryz.underlying5 Tryz.underlying9 (fun j hj => ?_)
  obtain ⟨g', c', cs, he, _, _, hK, hc, _⟩ := h.at_ (List.getElem?_eq_getElem hj)
  injection he with he _ _
  injection he with he
  injection he with he _
  subst he
  have hK : cs = [Value.int .u8 (l[j].toNat : Int)] := hK
  subst hK
  have := hc 0 _ rfl
  rw [show j * b8.sz + 0 = j from by show j * 1 + 0 = j; omega] at this
  rw [Addr.add_lit, Nat.zero_add]
  exact this
def srtsL (D : List Df) (N k : Nat) : List (Int × Int) := (List.range N).map (fun v => if v < k then srtR D v else (0, 0))
theorem srtsL_len (D : List Df) (N k : Nat) : (srtsL D N k).length = N := by simp [srtsL]
theorem upd_set {α : Type} {N k : Nat} {f : Nat → α} {z m : α} (hk : k < N) (h : m = f k) : ((List.range N).map (fun v => if v < k then f v else z)).set k m = (List.range N).map (fun v => if v < k + 1 then f v else z) := by
  apply List.ext_getElem
  · simp
  · intro i h1 h2
    rw [List.getElem_set]
    simp only [List.getElem_map, List.getElem_range]
    by_cases hik : k = i
    · subst hik; simp [h]
    · rw [if_neg hik]
      by_cases h3 : i < k
      · rw [if_pos h3, if_pos (by omega)]
      · rw [if_neg h3, if_neg (by omega)]
theorem upd_zero {α : Type} {N : Nat} {f : Nat → α} {z : α} : (List.range N).map (fun v => if v < 0 then f v else z) = List.replicate N z := by
  apply List.ext_getElem
  · simp
  · intro i h1 h2; simp
theorem upd_all {α : Type} {N : Nat} {f : Nat → α} {z : α} : (List.range N).map (fun v => if v < N then f v else z) = (List.range N).map f :=
  List.map_congr_left fun v hv => by rw [if_pos (List.mem_range.1 hv)]
theorem Ow.two_at {α : Type} {ap : Bool} {e g n c : Nat} {r : Rp α} {f h2 : α → Value} (h2s : r.sz = 2) (ho : ∀ {w F x cs}, r.K w F x cs → cs = [f x, h2 x]) {w : World} {F : Nat → Prop} {l : List α} (h : Ow ap e r w F (.slice (some ⟨g, 0, none⟩) n c) l) {k : Nat} (hk : k < l.length) :
    w.cell? ⟨g, k * 2, none⟩ = some (f l[k]) ∧ w.cell? ⟨g, k * 2 + 1, none⟩ = some (h2 l[k]) ∧ ∀ o, w.frozen? ⟨g, o, none⟩ = false := by
  obtain ⟨g', c', cs, he, _, _, hK, hc, hf⟩ := h.at_ (List.getElem?_eq_getElem hk)
  injection he with he _ _
  injection he with he
  injection he with he _
  subst he
  obtain rfl := ho hK
  rw [h2s] at hc
  exact ⟨hc 0 _ rfl, hc 1 _ rfl, hf⟩
set_option maxRecDepth 100000 in
set_option maxHeartbeats 16000000 in
theorem groups_calls {F : Nat → Prop} (s : Sa) (N vb : Nat) (vparts vn vd vD vT : Value) (w : World) (hv : w.heap[vb]? = some (viewC vparts s.values vn vd vD vT)) (hs : Rp.Rd part w F vparts s.parts) (hg : GoodP s) (hx2 : ∀ p ∈ s.parts, PtLim p) (hNV : (N : Int) = s.values) :
    Calls Tryz.prog 68 #[.pointer (some ⟨vb, 0, none⟩)] w fun e w' => ∃ (v' : Value) (t : Nat), e = .returned (.tuple #[v', .int .i64 t]) ∧ Ow true 3 Rp.int w' (fun q => w.heap.size ≤ q) v' (intsN (nowI N (srtR (dfAll s)) (usR s (dfAll s)) t)) ∧ First (StopI N (srtR (dfAll s)) (usR s (dfAll s))) t ∧ Below w.heap.size w w' := by
  obtain ⟨rank, X⟩ := dctx hg hNV
  have hNt : s.values.toNat = N := by omega
  have hv1 := hg.v1
  have hv2 := hg.v2
  have hN0 : 0 < N := by omega
  have hN1 : N ≤ 250 := by omega
  have HMk := Lib.hid (makers_calls s N vb vparts vn vd vD vT w hv hs hg hx2 hNV)
  have Hin := Lib.hid (fun v (hv : v < N) => sort_in64 hg (v := rootD (dfAll s) v) (by have := (rootD_lt X.rk hv).1; omega))
  have Hpin := Lib.hid (fun v (hv : v < N) => X.pin (rootD (dfAll s) v) (rootD_lt X.rk hv).1)
  have Hpl := Lib.hid (fun v (hv : v < N) => X.pl (rootD (dfAll s) v) (rootD_lt X.rk hv).1)
  obtain ⟨D, hD⟩ : ∃ D, D = dfAll s := ⟨_, rfl⟩
  rw [← hD] at HMk Hin Hpin Hpl ⊢
  clear hD X hg hx2 hv hs hNt
  replace hNV := Lib.hid hNV
  go_enter Tryz.func68, Tryz.ntmps68
  go_wp2_with fail
  refine HMk.out.mono ?_
  rintro e w1 ⟨vM, rfl, hM, hb1⟩
  have hlM : (resL s D N).length = N := by simp [resL]
  have hgM := Lib.hid (fun v (hv : v < N) (h : v < (resL s D N).length) => (show (resL s D N)[v] = resM s D v by simp [resL]))
  obtain ⟨L, hL⟩ : ∃ L, L = resL s D N := ⟨_, rfl⟩
  rw [← hL] at hM hlM hgM
  clear hL HMk
  replace hM := hM.bound
  obtain ⟨AM, cM, rfl, _, _, hrM⟩ := rd_mkr hM
  obtain rfl : N = L.length := hlM.symm
  clear hlM
  rcases hrM with hn | ⟨bM, oM, rfl, hbM, hcM⟩
  · rw [hn] at hN0; simp at hN0
  have HcM := Lib.hid hcM
  clear hcM hM
  have hmk1 := mk_all Tryz.underlying154 infoSrt L.length (by omega) (by omega)
  have hmk2 := mk_all Tryz.underlying160 infoGrp L.length (by omega) (by omega)
  have hO1 := ow_alloc (e := 156) (r := srtK) (n := L.length) (z := #[.int .i64 0, .int .i64 0]) (x0 := (0, 0)) w1 (by omega) rfl (by decide) (fun _ => srt_mk _ _ (0, 0))
  have hb2 := below_new (w := w1) (.cells (madeCells #[.int .i64 0, .int .i64 0] (L.length * 2)) 156)
  have hz2 : (w1.alloc (.cells (madeCells #[.int .i64 0, .int .i64 0] (L.length * 2)) 156)).heap.size = w1.heap.size + 1 := by simp
  have hsN := hb1.size
  go_wp2_with fail
  obtain ⟨W2, hW2⟩ : ∃ W2, W2 = w1.alloc (.cells (madeCells #[.int .i64 0, .int .i64 0] (L.length * 2)) 156) := ⟨_, rfl⟩
  have hO2 : Ow true 156 srtK W2 (fun q => q = w1.heap.size) (.slice (some ⟨w1.heap.size, 0, none⟩) L.length L.length) (srtsL D L.length 0) := by rw [hW2]; unfold srtsL; rw [upd_zero]; exact hO1
  rw [← hW2] at hb2 hz2 ⊢
  clear hW2 hO1
  obtain ⟨go, hgo⟩ : ∃ go, go = w1.heap.size := ⟨_, rfl⟩
  rw [← hgo] at hO2 ⊢
  have hB2 := below_then hb1 hb2
  have hHcM2 : Hid (∀ k (hk : k < L.length), ∃ u, MkAt W2 bM (oM + k * 4) L[k] u ∧ Rp.Rd Rp.int W2 (fun q => q < go) u L[k].uses) := Lib.hid (fun k hk => by
    obtain ⟨u, h1, h2⟩ := HcM.out k hk
    exact ⟨u, h1.below hb2, (h2.mono (fun q hq => by have := hq.2; omega)).below hb2⟩)
  have hbg : bM < go := by omega
  have hRet : ∀ w' : World, Chg (fun q => q = go) W2 w' → Below w.heap.size w w' := fun w' h => h.to_below hB2 hB2.size (fun q hq => by have hq : q = go := hq; omega)
  replace hRet := Lib.hid hRet
  have hgg : go < W2.heap.size := by omega
  have hgw : w.heap.size ≤ go := by omega
  clear hgo hz2 hb2 HcM hsN hmk1
  go_loopw [26] (fun i wr => ∃ k : Nat, k ≤ L.length ∧ i = .int .i64 k ∧ Ow true 156 srtK wr (fun q => q = go) (.slice (some ⟨go, 0, none⟩) L.length L.length) (srtsL D L.length k) ∧ Chg (fun q => q = go) W2 wr) (fun i _ => L.length - (intOf i).toNat)
  case atStart => exact ⟨0, Nat.zero_le _, rfl, hO2, Chg.refl _ _⟩
  case round =>
    clear hO2
    obtain ⟨k, hk, rfl, HO, HC⟩ := hrel
    rename World => wx
    by_cases hkt : k < L.length
    · have k0 : (0 : Int) ≤ (k : Int) := Int.natCast_nonneg _
      have k1 : (k : Int) < (L.length : Int) := by omega
      obtain ⟨u, hu1, hu2⟩ := hHcM2.out k hkt
      have hcl : ∀ (o : Nat) (x : Value), W2.cell? ⟨bM, o, none⟩ = some x → wx.cell? ⟨bM, o, none⟩ = some x := fun o x h => (Rp.cell_move (HC.block bM (blk_of_cell h) (by show ¬ bM = go; omega)) o).trans h
      have z0 := hcl _ _ hu1.c0
      have z1 := hcl _ _ hu1.c1
      have z2 := hcl _ _ hu1.c2
      have z3 := hcl _ _ hu1.c3
      rw [hgM.out k hkt hkt] at z0 z1 z3 hu2
      have hlS := srtsL_len D L.length k
      have hset : Hid (∀ m, m = srtR D k → (srtsL D L.length k).set k m = srtsL D L.length (k + 1)) := Lib.hid (fun m h => upd_set hkt h)
      obtain ⟨Au, cu, rfl, _, _, _⟩ := id hu2
      clear hcl hu1 hu2
      have hb3 := below_new (w := wx) (.cells #[.int .i64 (resM s D k).kind, .int .i64 (resM s D k).n, .slice Au (resM s D k).uses.length cu, .int .i64 (resM s D k).copy] 158)
      have x3 := heap_alloc_new wx (.cells #[.int .i64 (resM s D k).kind, .int .i64 (resM s D k).n, .slice Au (resM s D k).uses.length cu, .int .i64 (resM s D k).copy] 158)
      obtain ⟨y1, _⟩ := cell_of_block x3
      have y10 : (wx.alloc (.cells #[.int .i64 (resM s D k).kind, .int .i64 (resM s D k).n, .slice Au (resM s D k).uses.length cu, .int .i64 (resM s D k).copy] 158)).cell? ⟨wx.heap.size, 0, none⟩ = some (.int .i64 (resM s D k).kind) := (y1 0).trans rfl
      have y11 : (wx.alloc (.cells #[.int .i64 (resM s D k).kind, .int .i64 (resM s D k).n, .slice Au (resM s D k).uses.length cu, .int .i64 (resM s D k).copy] 158)).cell? ⟨wx.heap.size, 1, none⟩ = some (.int .i64 (resM s D k).n) := (y1 1).trans rfl
      have HO3 := HO.below hb3
      have HC3 := HC.trans (Chg.of_below (A := fun q => q = go) hb3)
      obtain ⟨t0, t1, hfr⟩ := HO3.two_at (f := fun x => .int .i64 x.1) (h2 := fun x => .int .i64 x.2) rfl (fun h => srt_open h) (k := k) (by rw [hlS]; exact hkt)
      have hP := (HO3.put (G := fun _ => False) rfl (i := k) (by rw [hlS]; exact hkt) (srt_mk _ _ (srtR D k)) (fun _ h => h.elim)).mono (G := fun q => q = go) (fun q hq => hq.elim id (fun h => h.elim))
      rw [hset.out _ rfl] at hP
      have HCP := HC3.trans (putRow_chg go [.int .i64 (srtR D k).1, .int .i64 (srtR D k).2] _ (k * 2))
      clear HO HO3 HC HC3 y1 hset
      go_wp2
      go_roundw
      case rel => exact ⟨k + 1, by omega, by go_num, hP, HCP⟩
      case measure => simp [intOf]; omega
    · obtain rfl : k = L.length := by omega
      have hHc3 : Hid (∀ k (hk : k < L.length), ∃ u, MkAt wx bM (oM + k * 4) (resM s D k) u ∧ Rp.Rd Rp.int wx (fun q => q < go) u (resM s D k).uses) := Lib.hid (fun k hk => by
        obtain ⟨u, h1, h2⟩ := hHcM2.out k hk
        rw [hgM.out k hk hk] at h1 h2
        have hcl : ∀ (o : Nat) (x : Value), W2.cell? ⟨bM, o, none⟩ = some x → wx.cell? ⟨bM, o, none⟩ = some x := fun o x h => (Rp.cell_move (HC.block bM (blk_of_cell h) (by show ¬ bM = go; omega)) o).trans h
        exact ⟨u, ⟨hcl _ _ h1.c0, hcl _ _ h1.c1, hcl _ _ h1.c2, hcl _ _ h1.c3⟩, h2.move (HC.same (fun q hq h => by have hq : q < go := hq; have h : q = go := h; omega))⟩)
      have hBx := hRet.out _ HC
      have hsx := hBx.size
      have hgx : go < wx.heap.size := by have := HC.size; omega
      have hfin : srtsL D L.length L.length = (List.range L.length).map (srtR D) := by unfold srtsL; exact upd_all
      have hN1' := numberedSrt_calls ((List.range L.length).map (srtR D)) (.slice (some ⟨go, 0, none⟩) L.length L.length) wx (by rw [← hfin]; exact HO.rd) (fun x hx => by
        obtain ⟨v, hv, rfl⟩ := List.mem_map.1 hx
        exact Hin.out v (List.mem_range.1 hv)) (by simp; omega)
      replace hN1' := Lib.hid hN1'
      clear HO HC hHcM2 hRet hB2 hfin Hin
      go_wp2_with fail
      refine hN1'.out.mono ?_
      rintro e w4 ⟨v4, rfl, hO4, hb4⟩
      have hB4 := below_then hBx hb4
      have hHc4 : Hid (∀ k (hk : k < L.length), ∃ u, MkAt w4 bM (oM + k * 4) (resM s D k) u ∧ Rp.Rd Rp.int w4 (fun q => q < go) u (resM s D k).uses) := Lib.hid (fun k hk => by
        obtain ⟨u, h1, h2⟩ := hHc3.out k hk
        exact ⟨u, h1.below hb4, h2.below hb4⟩)
      have hO5 : Ow true 3 Rp.int w4 (fun q => w.heap.size ≤ q) v4 (intsN (nowI L.length (srtR D) (usR s D) 0)) := hO4.mono (fun q hq => Nat.le_trans hsx hq)
      have hc0 : Hid ((firsts ((List.range L.length).map (srtR D))).length = cntI L.length (srtR D) (usR s D) 0) := Lib.hid rfl
      rw [hc0.out]
      have hgo4 : go < w4.heap.size := by have := hb4.size; omega
      clear hN1' hO4 hb4 hHc3 hBx hsx hgx hc0
      go_wp2_with fail
      go_loopw [8, 9, 10] (fun nv cv rv wr => ∃ (t : Nat) (vn : Value), vn = nv ∧ cv = .int .i64 (cntI L.length (srtR D) (usR s D) t : Nat) ∧ rv = .int .i64 (t : Nat) ∧ Ow true 3 Rp.int wr (fun q => w.heap.size ≤ q) vn (intsN (nowI L.length (srtR D) (usR s D) t)) ∧ t ≤ cntI L.length (srtR D) (usR s D) t ∧ Hid (∀ q, q < t → ¬ StopI L.length (srtR D) (usR s D) q) ∧ Below w4.heap.size w4 wr) (fun _ _ rv _ => L.length - cntI L.length (srtR D) (usR s D) (intOf rv).toNat)
      case atStart => exact ⟨0, _, rfl, rfl, rfl, hO5, Nat.zero_le _, Lib.hid (fun q hq => by omega), Below.refl _ _⟩
      case round =>
        clear hO5
        obtain ⟨t, vn, rfl, rfl, rfl, HO, htc, HNs, HB⟩ := hrel
        rename World => wa
        have hB5 := below_then hB4 HB
        have hcle := cntI_le (n := L.length) (srt := srtR D) (us := usR s D) (t + 1)
        have hcle0 := cntI_le (n := L.length) (srt := srtR D) (us := usR s D) t
        have hcst := Lib.hid (stopI_lt (N := L.length) (srt := srtR D) (us := usR s D) (t := t))
        have hln := nowI_len (n := L.length) (srt := srtR D) (us := usR s D) t
        have hlt := Lib.hid (fun v (hv : v < L.length) => nowI_lt (n := L.length) (srt := srtR D) (us := usR s D) t hv)
        have hNx : Hid (nowI L.length (srtR D) (usR s D) (t + 1) = numL ((List.range L.length).map (keyI (usR s D) (nowI L.length (srtR D) (usR s D) t)))) := Lib.hid rfl
        have hCx : Hid (cntI L.length (srtR D) (usR s D) (t + 1) = (firsts ((List.range L.length).map (keyI (usR s D) (nowI L.length (srtR D) (usR s D) t)))).length) := Lib.hid rfl
        have hkT := Lib.hid (fun k (hk : k < L.length) m (hm : m = keyI (usR s D) (nowI L.length (srtR D) (usR s D) t) k) => (show (keysT s D L.length t k).set k m = keysT s D L.length t (k + 1) from upd_set hk hm))
        have hkE := Lib.hid (fun k => keyI_eq s D (nowI L.length (srtR D) (usR s D) t) k)
        have hO6 := ow_alloc (e := 163) (r := grpK) (n := L.length) (z := #[.int .i64 0, .string ByteArray.empty]) (x0 := (0, [])) wa (by omega) rfl (by decide) (fun _ => grp_mk _ _ (0, []))
        have hb6 := below_new (w := wa) (.cells (madeCells #[.int .i64 0, .string ByteArray.empty] (L.length * 2)) 163)
        have hz6 : (wa.alloc (.cells (madeCells #[.int .i64 0, .string ByteArray.empty] (L.length * 2)) 163)).heap.size = wa.heap.size + 1 := by simp
        obtain ⟨NW, hNW⟩ : ∃ NW, NW = nowI L.length (srtR D) (usR s D) t := ⟨_, rfl⟩
        rw [← hNW] at HO hln hlt hNx hCx hkT hkE
        have hNWe := Lib.hid hNW
        clear hNW
        have hNl1 : NW.length ≤ L.length := by omega
        have hNl2 : L.length ≤ NW.length := by omega
        have hil := intsN_len NW
        obtain ⟨An, cn, hvne, _, _, hrn⟩ := rd_int HO.rd
        rw [hil] at hvne
        subst hvne
        rcases hrn with hn | ⟨bn, on, rfl, hbn, hcn⟩
        · have := congrArg List.length hn
          rw [hil, List.length_nil] at this
          omega
        have hcn2 : Hid (∀ k (hk : k < L.length), wa.cell? ⟨bn, on + k, none⟩ = some (.int .i64 ((NW.getD k 0 : Nat) : Int))) := Lib.hid (fun k hk => by
          have h1 := hcn k (by omega)
          have e : (intsN NW)[k]'(by omega) = ((NW.getD k 0 : Nat) : Int) := by
            unfold intsN
            rw [List.getElem_map, List.getD_eq_getElem?_getD, List.getElem?_eq_getElem (by omega)]
            rfl
          rw [e] at h1
          exact h1)
        clear hcn
        replace hln := Lib.hid hln
        replace hil := Lib.hid hil
        replace HO := HO.bound
        go_wp2_with fail
        obtain ⟨W6, hW6⟩ : ∃ W6, W6 = wa.alloc (.cells (madeCells #[.int .i64 0, .string ByteArray.empty] (L.length * 2)) 163) := ⟨_, rfl⟩
        have hO7 : Ow true 163 grpK W6 (fun q => q = wa.heap.size) (.slice (some ⟨wa.heap.size, 0, none⟩) L.length L.length) (keysT s D L.length t 0) := by rw [hW6]; unfold keysT; rw [upd_zero]; exact hO6
        rw [← hW6] at hb6 hz6 ⊢
        clear hW6 hO6
        obtain ⟨g2, hg2⟩ : ∃ g2, g2 = wa.heap.size := ⟨_, rfl⟩
        rw [← hg2] at hO7 ⊢
        have hB6 := below_then hB5 hb6
        have hB6o := below_then HB hb6
        have hsa := HB.size
        have HO6 := (HO.mono (G := fun q => w.heap.size ≤ q ∧ q < g2) (fun q hq => ⟨hq.1, by have := hq.2; omega⟩)).below hb6
        have hgo6 : go < g2 := by omega
        have hgg2 : g2 < W6.heap.size := by omega
        have hgw2 : w.heap.size ≤ g2 := by have := hB5.size; omega
        have hgw4 : w4.heap.size ≤ g2 := by omega
        have hHc6 : Hid (∀ k (hk : k < L.length), ∃ u, MkAt W6 bM (oM + k * 4) (resM s D k) u ∧ Rp.Rd Rp.int W6 (fun q => q < go) u (resM s D k).uses) := Lib.hid (fun k hk => by
          obtain ⟨u, h1, h2⟩ := hHc4.out k hk
          exact ⟨u, h1.below hB6o, h2.below hB6o⟩)
        have hcn6 : Hid (∀ k (hk : k < L.length), W6.cell? ⟨bn, on + k, none⟩ = some (.int .i64 ((NW.getD k 0 : Nat) : Int))) := Lib.hid (fun k hk => cell_below hb6 (hcn2.out k hk))
        have hbn2 : bn < g2 := by omega
        clear hb6 hg2 hB5 hz6 HO hcn2
        go_loopw [49] (fun i wr => ∃ k : Nat, k ≤ L.length ∧ i = .int .i64 k ∧ Ow true 163 grpK wr (fun q => q = g2) (.slice (some ⟨g2, 0, none⟩) L.length L.length) (keysT s D L.length t k) ∧ Chg (fun q => q = g2) W6 wr) (fun i _ => L.length - (intOf i).toNat)
        case atStart => exact ⟨0, Nat.zero_le _, rfl, hO7, Chg.refl _ _⟩
        case round =>
          clear hO7
          obtain ⟨k, hk, rfl, HO, HC⟩ := hrel
          rename World => wb
          by_cases hkt : k < L.length
          · have k0 : (0 : Int) ≤ (k : Int) := Int.natCast_nonneg _
            have k1 : (k : Int) < (L.length : Int) := by omega
            obtain ⟨u, hu1, hu2⟩ := hHc6.out k hkt
            have hcl : ∀ (bq o : Nat) (x : Value), bq < g2 → W6.cell? ⟨bq, o, none⟩ = some x → wb.cell? ⟨bq, o, none⟩ = some x := fun bq o x hq h => (Rp.cell_move (HC.block bq (blk_of_cell h) (by show ¬ bq = g2; omega)) o).trans h
            have z0 := hcl _ _ _ (by omega) hu1.c0
            have z1 := hcl _ _ _ (by omega) hu1.c1
            have z2 := hcl _ _ _ (by omega) hu1.c2
            have z3 := hcl _ _ _ (by omega) hu1.c3
            have hu3 := hu2.move (HC.same (fun q hq h => by have hq : q < go := hq; have h : q = g2 := h; omega))
            have hcnb : Hid (∀ k (hk : k < L.length), wb.cell? ⟨bn, on + k, none⟩ = some (.int .i64 ((NW.getD k 0 : Nat) : Int))) := Lib.hid (fun k hk => hcl _ _ _ hbn2 (hcn6.out k hk))
            have hpi := Lib.hid (Hpin.out k hkt)
            have hpl := Hpl.out k hkt
            have hke := Lib.hid (hkE.out k)
            have hur : (resM s D k).uses = partsD s D (rootD D k) := rfl
            rw [hur] at hu3
            have hlS := keysT_len s D L.length t k
            have hset := Lib.hid (hkT.out k hkt)
            obtain ⟨us, hus⟩ : ∃ us, us = partsD s D (rootD D k) := ⟨_, rfl⟩
            rw [← hus] at hu3 hpi hpl hke
            obtain ⟨rm, hrm⟩ : ∃ rm, rm = resM s D k := ⟨_, rfl⟩
            rw [← hrm] at z0 z1 z3 hur
            have hru : rm.uses = us := by rw [hur, hus]
            clear hcl hu1 hu2 hrm hus hur
            subst hru
            obtain ⟨Au, cu, rfl, _, _, hrU⟩ := rd_int hu3
            have hb7 := below_new (w := wb) (.cells #[.int .i64 rm.kind, .int .i64 rm.n, .slice Au rm.uses.length cu, .int .i64 rm.copy] 158)
            have x7 := heap_alloc_new wb (.cells #[.int .i64 rm.kind, .int .i64 rm.n, .slice Au rm.uses.length cu, .int .i64 rm.copy] 158)
            have hz7 : (wb.alloc (.cells #[.int .i64 rm.kind, .int .i64 rm.n, .slice Au rm.uses.length cu, .int .i64 rm.copy] 158)).heap.size = wb.heap.size + 1 := by simp
            obtain ⟨W7, hW7⟩ : ∃ W7, W7 = wb.alloc (.cells #[.int .i64 rm.kind, .int .i64 rm.n, .slice Au rm.uses.length cu, .int .i64 rm.copy] 158) := ⟨_, rfl⟩
            have hb8 := below_new (w := W7) (.cells #[] 5)
            have hO8 := (ow_empty (r := b8) (ap := true) (heap_alloc_new W7 (.cells #[] 5))).mono (G := fun q => wb.heap.size < q) (fun q hq => by have hq : q = W7.heap.size := hq; rw [hW7] at hq; rw [hz7] at hq; omega)
            have x8 : (W7.alloc (.cells #[] 5)).heap[wb.heap.size]? = some (.cells #[.int .i64 rm.kind, .int .i64 rm.n, .slice Au rm.uses.length cu, .int .i64 rm.copy] 158 (0, 0)) := blk_below (by rw [hW7]; exact x7) hb8
            have hb9 : Below wb.heap.size wb (W7.alloc (.cells #[] 5)) := below_then (by rw [hW7]; exact hb7) hb8
            rw [hW7] at hO8 x8 hb9
            have hsz7 : W7.heap.size = wb.heap.size + 1 := by rw [hW7]; exact hz7
            clear hb7 x7 hb8 hW7
            obtain ⟨y1, _⟩ := cell_of_block x8
            have y12 := (y1 2).trans rfl
            clear y1
            go_wp2_with fail
            obtain ⟨W8, hW8⟩ : ∃ W8, W8 = (wb.alloc (.cells #[.int .i64 rm.kind, .int .i64 rm.n, .slice Au rm.uses.length cu, .int .i64 rm.copy] 158)).alloc (.cells #[] 5) := ⟨_, rfl⟩
            rw [← hW8] at hO8 x8 hb9 ⊢
            rw [hz7] at hO8
            clear hW8 y12 z0 z1 z2 z3 hsz7 hz7
            have hO9 : Ow true 5 b8 W8 (fun q => wb.heap.size < q) (.slice (some ⟨wb.heap.size + 1, 0, none⟩) 0 0) (byteL NW (rm.uses.take 0)) := hO8
            clear hO8
            go_loopw [14, 58] (fun bv i wr => ∃ (m g c : Nat), bv = .slice (some ⟨g, 0, none⟩) m c ∧ m ≤ rm.uses.length ∧ i = .int .i64 m ∧ Ow true 5 b8 wr (fun q => wb.heap.size < q) (.slice (some ⟨g, 0, none⟩) m c) (byteL NW (rm.uses.take m)) ∧ Below wb.heap.size wb wr ∧ wr.heap[wb.heap.size]? = some (.cells #[.int .i64 rm.kind, .int .i64 rm.n, .slice Au rm.uses.length cu, .int .i64 rm.copy] 158 (0, 0))) (fun _ i _ => rm.uses.length - (intOf i).toNat)
            case atStart => exact ⟨0, _, _, rfl, Nat.zero_le _, rfl, hO9, hb9, x8⟩
            case round =>
              clear hO9 hb9 x8
              obtain ⟨m, g, cg, rfl, hm, rfl, HOb, HBb, xb⟩ := hrel
              rename World => wc
              by_cases hmt : m < rm.uses.length
              · rcases hrU with hn | ⟨bu, ou, rfl, hbu, hcu⟩
                · rw [hn] at hmt; simp at hmt
                have cm := cell_below HBb (hcu m hmt)
                have hpm := hpi.out _ (List.getElem_mem hmt)
                have hbt := Lib.hid (byteL_take (now := NW) hmt)
                clear hcu
                obtain ⟨x, hx⟩ : ∃ x, x = rm.uses[m] := ⟨_, rfl⟩
                rw [← hx] at cm hpm hbt
                clear hx
                obtain ⟨x, rfl⟩ := Int.eq_ofNat_of_zero_le hpm.1
                have hxN : x < L.length := by omega
                have cx := cell_below HBb (hcnb.out x hxN)
                rw [Int.toNat_natCast] at hbt
                have hyl := hlt.out x hxN
                obtain ⟨y, hy⟩ : ∃ y, y = NW.getD x 0 := ⟨_, rfl⟩
                rw [← hy] at cx hbt
                have hy256 : y < 256 := by
                  have h1 := hlt.out x hxN
                  rw [← hy] at h1
                  omega
                clear hy hyl
                have hy0 : (0 : Int) ≤ (y : Int) := Int.natCast_nonneg _
                have hy1 : (y : Int) ≤ 255 := by omega
                have m0 : (0 : Int) ≤ (m : Int) := Int.natCast_nonneg _
                have m1 : (m : Int) < (rm.uses.length : Int) := by omega
                have x0 : (0 : Int) ≤ (x : Int) := Int.natCast_nonneg _
                have x1 : (x : Int) < (NW.length : Int) := by omega
                have hlb : (byteL NW (rm.uses.take m)).length = m := by unfold byteL; simp; omega
                have hyv := u8_toNat hy256
                replace hlb := Lib.hid hlb
                replace hyv := Lib.hid hyv
                have hK8 : ∀ W' G, b8.K W' G (UInt8.ofNat y) [Value.int .u8 (y : Int)] := fun W' G => by show [_] = [_]; dsimp only; rw [hyv.out]
                replace hK8 := Lib.hid hK8
                obtain ⟨bl, hbl⟩ : ∃ bl, bl = byteL NW (rm.uses.take m) := ⟨_, rfl⟩
                rw [← hbl] at HOb hbt hlb
                clear hbl
                go_wp2_with (at_builtin; (refine ow_append1 (r := b8) (G := fun _ => False) (us := [.int .u8 (y : Int)]) (by rfl) _ _ 161 (.int .u8 0) 1 (by rfl) Tryz.underlying161 infoB8 rfl (by decide) (by omega) _ bl (UInt8.ofNat y) (by rfl) (by rfl) HOb (hK8.out _ _) (fun _ h => h.elim) (by have := hlb.out; omega) ?_; intro v9 w9 HO9 hg9))
                obtain ⟨g9, c9, hv9, _⟩ := HO9.some_form (by simp)
                rw [List.length_append, hlb.out] at hv9
                subst hv9
                have HBd := below_grown HBb hg9 (fun q hq => by have := own_in HOb (.inr hq); omega) HBb.size
                have xd := grown_blk hg9 xb (own_ne HOb (by omega))
                have HOd := HO9.mono (G := fun q => wb.heap.size < q) (fun q hq => by have h1 := HBb.size; rcases hq with hq | hq | hq; exact hq; exact hq.elim; have := blk_lt xb; omega)
                rw [← hbt.out] at HOd
                clear HO9 hg9 HOb HBb xb hbt hlb hK8 hyv
                go_roundw
                case rel => exact ⟨m + 1, g9, c9, rfl, by omega, by go_num, HOd, HBd, xd⟩
                case measure => simp [intOf]; omega
              · obtain rfl : m = rm.uses.length := by omega
                rw [List.take_length] at HOb
                have HO3 := HO.below HBb
                obtain ⟨t0, t1, hfr⟩ := HO3.two_at (f := fun x => .int .i64 (x.1 : Nat)) (h2 := fun x => .string ⟨x.2.toArray⟩) rfl (fun h => grp_open h) (k := k) (by rw [hlS]; exact hkt)
                have hP := (HO3.put (G := fun _ => False) rfl (i := k) (by rw [hlS]; exact hkt) (grp_mk _ _ (NW.getD k 0, byteL NW rm.uses)) (fun _ h => h.elim)).mono (G := fun q => q = g2) (fun q hq => hq.elim id (fun h => h.elim))
                rw [hset.out _ hke.out.symm] at hP
                have HC3 := HC.trans (Chg.of_below (A := fun q => q = g2) HBb)
                have cN := cell_below HBb (hcnb.out k hkt)
                have hcv := conv_b8 HOb
                have hcvd := conv_b8 (W := wc.drew) (HOb.move (fun q _ _ => rfl))
                obtain ⟨y, hy⟩ : ∃ y, y = NW.getD k 0 := ⟨_, rfl⟩
                obtain ⟨bl, hbl⟩ : ∃ bl, bl = byteL NW rm.uses := ⟨_, rfl⟩
                rw [← hy] at hP cN
                rw [← hbl] at hP hcv hcvd
                have HCP := HC3.trans (putRow_chg g2 [.int .i64 (y : Nat), .string ⟨bl.toArray⟩] _ (k * 2))
                clear HO HO3 HC HC3 HOb HBb xb hset hke hy hbl hcnb hpi
                have k2' : (k : Int) < (NW.length : Int) := by omega
                go_wp2_with fail
                go_region
                go_wp2
                go_roundw
                case rel => exact ⟨k + 1, by omega, by go_num, hP, HCP.trans (Chg.of_below (below_drew (Below.refl _ _)))⟩
                case measure => simp [intOf]; omega
          · obtain rfl : k = L.length := by omega
            have hfin : keysT s D L.length t L.length = (List.range L.length).map (keyI (usR s D) NW) := by unfold keysT; rw [← hNWe.out]; exact upd_all
            have hBx := HC.to_below hB6 hB6.size (fun q hq => by have hq : q = g2 := hq; omega)
            have hBo := HC.to_below hB6o hB6o.size (fun q hq => by have hq : q = g2 := hq; omega)
            have hsx := hBx.size
            have hn2 := numberedGrp_calls ((List.range L.length).map (keyI (usR s D) NW)) (.slice (some ⟨g2, 0, none⟩) L.length L.length) wb (by rw [← hfin]; exact HO.rd) (fun x hx => by
              obtain ⟨v, hv, rfl⟩ := List.mem_map.1 hx
              have hv := List.mem_range.1 hv
              rw [hkE.out v]
              have h1 := hlt.out v hv
              have h2 := Hpl.out v hv
              refine ⟨by show NW.getD v 0 ≤ 1000000; omega, ?_⟩
              show (byteL NW (partsD s D (rootD D v))).length ≤ 1000000000
              unfold byteL
              rw [List.length_map]
              omega) (by simp; omega)
            rw [← hNx.out, ← hCx.out] at hn2
            replace hn2 := Lib.hid hn2
            have HOn := HO6.move (HC.same (fun q hq h => by have h1 := hq.2; have h : q = g2 := h; omega))
            obtain ⟨c1, hc1⟩ : ∃ c1, c1 = cntI L.length (srtR D) (usR s D) (t + 1) := ⟨_, rfl⟩
            have hc1e := Lib.hid hc1
            rw [← hc1] at hn2 hcle hcst
            clear HO HC hfin hHc6 hcn6 hB6 hB6o hc1 HO6 hHc4 hB4 HB hkT hkE hlt hNx hCx
            go_wp2_with fail
            refine hn2.out.mono ?_
            rintro e w8 ⟨v8, rfl, hO8, hb8⟩
            have hBy := below_then hBx hb8
            have hBz := below_then hBo hb8
            have HOm := HOn.below hb8
            clear hn2 hBx hBo hb8 HOn
            by_cases hst : c1 = cntI L.length (srtR D) (usR s D) t
            · have hq : (c1 : Int) = (cntI L.length (srtR D) (usR s D) t : Int) := by rw [hst]
              have hF : First (StopI L.length (srtR D) (usR s D)) t := ⟨by unfold StopI; rw [← hc1e.out]; exact hst, HNs.out⟩
              replace hF := Lib.hid hF
              have hNWl := Lib.hid (show NW.length = (nowI L.length (srtR D) (usR s D) t).length from congrArg List.length hNWe.out)
              rw [hNWe.out] at HOm
              replace HOm := HOm.mono (G := fun q => w.heap.size ≤ q) (fun q hq => hq.1)
              clear hst hc1e HNs hcst hNWe
              go_wp2
              refine bodyPost_ret (v := .tuple #[.slice (some ⟨bn, on, none⟩) NW.length cn, .int .i64 (t : Nat)]) (by simp [results, Tryz.results68, go_sem]) rfl ?_
              exact ⟨_, t, rfl, by rw [hNWl.out]; exact HOm, hF.out, hBy⟩
            · have hq : ¬ (c1 : Int) = (cntI L.length (srtR D) (usR s D) t : Int) := fun h => hst (by omega)
              have hN9 : Hid (∀ q, q < t + 1 → ¬ StopI L.length (srtR D) (usR s D) q) := Lib.hid (fun q hq1 => by
                by_cases hqt : q < t
                · exact HNs.out q hqt
                · obtain rfl : q = t := by omega
                  unfold StopI
                  rw [← hc1e.out]
                  exact hst)
              have hlt9 := hcst.out (by unfold StopI; rw [← hc1e.out]; exact hst)
              have HOq := hO8.mono (G := fun q => w.heap.size ≤ q) (fun q hq => Nat.le_trans hsx hq)
              have hfin : Hid (∀ r : Int, r = (t : Int) + 1 → L.length - cntI L.length (srtR D) (usR s D) r.toNat < L.length - cntI L.length (srtR D) (usR s D) t) := Lib.hid (fun r hr => by
                have : r.toNat = t + 1 := by omega
                rw [this, ← hc1e.out]
                omega)
              clear hst HNs hcst hNWe hO8 HOm
              have t0 : (0 : Int) ≤ (t : Int) := Int.natCast_nonneg _
              go_wp2_with fail
              go_roundw
              case rel => exact ⟨t + 1, _, rfl, by rw [← hc1e.out], by go_num, HOq, by rw [← hc1e.out]; omega, hN9, hBz⟩
              case measure => exact hfin.out _ (by simp [intOf])
end Go.Proofs.YtnfaibenekninaaGreat.L

set_option linter.unusedVariables false
set_option linter.unusedSimpArgs false
namespace Go.Proofs.YtnfaibenekninaaGreat.L
open Go.RowKit
open Classical in
/-- The first round behind which nothing changes. -/
noncomputable def roundsN (s : Sa) (N : Nat) : Nat := if h : ∃ t, First (StopS N (sortD (dfAll s)) (usD s (dfAll s)) (rootD (dfAll s))) t then Classical.choose h else 0
theorem rounds_S {s : Sa} {N t : Nat} (h : First (StopS N (sortD (dfAll s)) (usD s (dfAll s)) (rootD (dfAll s))) t) : t = roundsN s N := by
  have hx : ∃ t, First (StopS N (sortD (dfAll s)) (usD s (dfAll s)) (rootD (dfAll s))) t := ⟨t, h⟩
  unfold roundsN
  rw [dif_pos hx]
  exact First.uniq (fun _ => Iff.rfl) h (Classical.choose_spec hx)
theorem grp_okN {s : Sa} (h : GoodP s) {N : Nat} (hN : (N : Int) = s.values) : Grp N (sortD (dfAll s)) (usD s (dfAll s)) (rootD (dfAll s)) := by
  have := grp_ok h
  rwa [show s.values.toNat = N by omega] at this
theorem rounds_I {s : Sa} (hg : GoodP s) {N t : Nat} (hN : (N : Int) = s.values) (h : First (StopI N (srtR (dfAll s)) (usR s (dfAll s))) t) : t = roundsN s N := by
  have hG := grp_okN hg hN
  exact rounds_S ⟨(stop_iff hG t).1 h.1, fun q hq hs => h.2 q hq ((stop_iff hG q).2 hs)⟩
/-- The groups. -/
noncomputable def grpL (s : Sa) (N : Nat) : List Nat := nowI N (srtR (dfAll s)) (usR s (dfAll s)) (roundsN s N)
theorem grp_S {s : Sa} (hg : GoodP s) {N : Nat} (hN : (N : Int) = s.values) : numL (keyN s (dfAll s) N (roundsN s N)) = grpL s N := num_is (grp_okN hg hN) _
theorem grpL_len (s : Sa) (N : Nat) : (grpL s N).length = N := nowI_len _
theorem grpL_lt {s : Sa} {N v : Nat} (hv : v < N) : (grpL s N).getD v 0 < N := Nat.lt_of_lt_of_le (nowI_lt _ hv) (cntI_le _)
theorem grpL_mem {s : Sa} {N x : Nat} (hx : x ∈ grpL s N) : x < N := by
  obtain ⟨i, hi, rfl⟩ := List.getElem_of_mem hx
  have h1 : i < N := by rw [grpL_len] at hi; exact hi
  have := grpL_lt (s := s) h1
  rwa [List.getD_eq_getElem?_getD, List.getElem?_eq_getElem hi] at this
/-- The greatest of a list. -/
def mxN (l : List Nat) : Nat := l.foldl max 0
def mx1 (l : List Nat) : Nat := l.foldl (fun m n => max m (n + 1)) 0
theorem mxN_snoc (l : List Nat) (x : Nat) : mxN (l ++ [x]) = max (mxN l) x := by unfold mxN; rw [List.foldl_append]; rfl
theorem mx1_snoc (l : List Nat) (x : Nat) : mx1 (l ++ [x]) = max (mx1 l) (x + 1) := by unfold mx1; rw [List.foldl_append]; rfl
theorem mx1_eq {l : List Nat} (h : l ≠ []) : mx1 l = mxN l + 1 := by
  have : ∀ (l : List Nat) (a : Nat), l.foldl (fun m n => max m (n + 1)) (a + 1) = l.foldl max a + 1 := by
    intro l
    induction l with
    | nil => intro a; rfl
    | cons x l ih =>
      intro a
      simp only [List.foldl_cons]
      rw [show max (a + 1) (x + 1) = max a x + 1 by omega]
      exact ih _
  cases l with
  | nil => exact absurd rfl h
  | cons x l =>
    unfold mx1 mxN
    simp only [List.foldl_cons]
    rw [show max 0 (x + 1) = max 0 x + 1 by omega]
    exact this l _
theorem mxN_take {l : List Nat} {k : Nat} (hk : k < l.length) : mxN (l.take (k + 1)) = max (mxN (l.take k)) l[k] := by
  rw [List.take_succ_eq_append_getElem hk, mxN_snoc]
theorem mx1_take {l : List Nat} {k : Nat} (hk : k < l.length) : mx1 (l.take (k + 1)) = max (mx1 (l.take k)) (l[k] + 1) := by
  rw [List.take_succ_eq_append_getElem hk, mx1_snoc]
theorem mxN_one {l : List Nat} (h : 0 < l.length) : mxN (l.take 1) = l[0] := by
  rw [mxN_take (k := 0) h]
  simp [mxN]
theorem mxN_le {l : List Nat} {b : Nat} (h : ∀ x ∈ l, x ≤ b) : mxN l ≤ b := by
  have : ∀ (l : List Nat) (a : Nat), a ≤ b → (∀ x ∈ l, x ≤ b) → l.foldl max a ≤ b := by
    intro l
    induction l with
    | nil => intro a ha _; exact ha
    | cons x l ih => intro a ha hl; exact ih _ (by have := hl x (by simp); omega) (fun y hy => hl y (by simp [hy]))
  exact this l 0 (Nat.zero_le _) h
/-- A number, nought where the ssa is no good. -/
def numG (n : Nat) (g : Bool) (v : Int) : Prop := v = if g = true then (n : Int) else 0
theorem numG.uniq {n : Nat} (g : Bool) (v v' : Int) (h : numG n g v) (h' : numG n g v') : v = v' := h.trans h'.symm
/-- What is told of two values. -/
def sameP (s : Sa) (a b : Int) (g v : Bool) : Prop := v = (g && decide ((grpL s s.values.toNat).getD a.toNat 0 = (grpL s s.values.toNat).getD b.toNat 0))
theorem sameP.uniq {s : Sa} {a b : Int} (g v v' : Bool) (h : sameP s a b g v) (h' : sameP s a b g v') : v = v' := h.trans h'.symm
def inV (s : Sa) (a b : Int) : Prop := 0 ≤ a ∧ a < s.values ∧ 0 ≤ b ∧ b < s.values
end Go.Proofs.YtnfaibenekninaaGreat.L

set_option linter.unusedVariables false
set_option linter.unusedSimpArgs false
namespace Go.Proofs.YtnfaibenekninaaGreat.L
open Go.RowKit
/-- Whether a value is there ahead of step j of part k. -/
noncomputable def thU (s : Sa) (k : Int) (p : Pt) (j : Nat) (v : Int) : Bool := @decide (ThereP (graphS s.parts) ((defsS s).getD []) (p.params ++ dstsS (p.code.take j)) k v) (Classical.propDecidable _)
theorem thU_iff {s : Sa} {k : Int} {p : Pt} {j : Nat} {v : Int} : thU s k p j v = true ↔ ThereP (graphS s.parts) ((defsS s).getD []) (p.params ++ dstsS (p.code.take j)) k v := by
  unfold thU
  exact @decide_eq_true_iff _ (Classical.propDecidable _)
def hitV (gl : List Int) (th : Int → Bool) (v : Int) (n : Nat) : Bool := gl.getD n 0 == gl.getD v.toNat 0 && th n
def firstV (gl : List Int) (th : Int → Bool) (v : Int) : Int := if 0 ≤ ixOf (hitV gl th v) (List.range v.toNat) then ixOf (hitV gl th v) (List.range v.toNat) else v
theorem firstV_hit {gl : List Int} {th : Int → Bool} {v : Int} {n : Nat} (hn : n < v.toNat) (h : ∀ j, j < n → hitV gl th v j = false) (hp : hitV gl th v n = true) : firstV gl th v = n := by
  have : ixOf (hitV gl th v) (List.range v.toNat) = n := ixOf_hit (by simpa using hn) (fun j hj hji => by simpa using h j hji) (by simpa using hp)
  unfold firstV
  rw [this, if_pos (by omega)]
theorem firstV_none {gl : List Int} {th : Int → Bool} {v : Int} (h : ∀ j, j < v.toNat → hitV gl th v j = false) : firstV gl th v = v := by
  have : ixOf (hitV gl th v) (List.range v.toNat) = -1 := ixOf_none (fun j hj => by simpa using h j (by simpa using hj))
  unfold firstV
  rw [this, if_neg (by omega)]
theorem firstV_in {gl : List Int} {th : Int → Bool} {v : Int} (h0 : 0 ≤ v) : 0 ≤ firstV gl th v ∧ firstV gl th v ≤ v := by
  unfold firstV
  split
  · rename_i h
    refine ⟨h, ?_⟩
    obtain ⟨i, hi⟩ := Int.eq_ofNat_of_zero_le h
    unfold ixOf at hi ⊢
    cases hf : (List.range v.toNat).findIdx? (hitV gl th v) with
    | none => rw [hf] at hi; exact absurd hi (by show ¬ (-1 : Int) = i; omega)
    | some j =>
      have := (List.findIdx?_eq_some_iff_getElem.1 hf).1
      rw [List.length_range] at this
      show (j : Int) ≤ v
      omega
  · omega
def cntV (f : Int → Int) (v : Int) : Nat := if f v = v then 0 else 1
def useX (f : Int → Int) (x : Fl) : Fl := { x with a := if fA x.op then f x.a else x.a, b := if fB x.op then f x.b else x.b }
def cntX (f : Int → Int) (x : Fl) : Nat := (if fA x.op then cntV f x.a else 0) + (if fB x.op then cntV f x.b else 0)
theorem useX_dst (f : Int → Int) (x : Fl) : (useX f x).dst = x.dst ∧ (useX f x).op = x.op := ⟨rfl, rfl⟩
/-- The steps as they are when j are done, and how many have changed. -/
def uCode (f : Nat → Int → Int) (l : List Fl) : Nat → List Fl
  | 0 => l
  | j + 1 => (uCode f l j).set j (useX (f j) (l.getD j fl0))
def uCodeN (f : Nat → Int → Int) (l : List Fl) : Nat → Nat
  | 0 => 0
  | j + 1 => uCodeN f l j + cntX (f j) (l.getD j fl0)
theorem uCode_len (f : Nat → Int → Int) (l : List Fl) (j : Nat) : (uCode f l j).length = l.length := by
  induction j with
  | zero => rfl
  | succ j ih => unfold uCode; rw [List.length_set, ih]
theorem uCode_get (f : Nat → Int → Int) (l : List Fl) {j m : Nat} (h : j ≤ m) : (uCode f l j)[m]? = l[m]? := by
  induction j with
  | zero => rfl
  | succ j ih => unfold uCode; rw [List.getElem?_set, if_neg (by omega)]; exact ih (by omega)
theorem uCode_done (f : Nat → Int → Int) (l : List Fl) {j m : Nat} (h : m < j) (hm : m < l.length) : (uCode f l j)[m]? = some (useX (f m) (l.getD m fl0)) := by
  induction j with
  | zero => omega
  | succ j ih =>
    unfold uCode
    rw [List.getElem?_set]
    by_cases he : j = m
    · subst he; rw [if_pos rfl, if_pos (by rw [uCode_len]; exact hm)]
    · rw [if_neg he]; exact ih (by omega)
/-- A row of Args when n are done. -/
def uRow (f : Int → Int) (l : List Int) (n : Nat) : List Int := (l.take n).map f ++ l.drop n
def uRowN (f : Int → Int) (l : List Int) (n : Nat) : Nat := ((l.take n).map (cntV f)).sum
theorem uRow_len (f : Int → Int) (l : List Int) {n : Nat} (hn : n ≤ l.length) : (uRow f l n).length = l.length := by unfold uRow; simp; omega
theorem uRow_get (f : Int → Int) (l : List Int) {n : Nat} (hn : n < l.length) : (uRow f l n)[n]? = some l[n] := by
  unfold uRow
  rw [List.getElem?_append_right (by simp; omega)]
  simp [Nat.min_eq_left (Nat.le_of_lt hn), List.getElem?_drop]
theorem uRow_step (f : Int → Int) (l : List Int) {n : Nat} (hn : n < l.length) : uRow f l (n + 1) = (uRow f l n).set n (f l[n]) ∧ uRowN f l (n + 1) = uRowN f l n + cntV f l[n] := by
  have hl : ((l.take n).map f).length = n := by simp; omega
  unfold uRow uRowN
  rw [List.take_succ_eq_append_getElem hn]
  refine ⟨?_, by rw [List.map_append, List.sum_append]; simp⟩
  rw [List.set_append_right _ _ (by omega), hl, Nat.sub_self, List.drop_eq_getElem_cons hn, List.set_cons_zero, List.map_append, List.append_assoc]
  rfl
theorem uRow_zero (f : Int → Int) (l : List Int) : uRow f l 0 = l ∧ uRowN f l 0 = 0 := by unfold uRow uRowN; simp
theorem uRow_all (f : Int → Int) (l : List Int) : uRow f l l.length = l.map f := by unfold uRow; simp
def uArgs (f : Int → Int) (l : List (List Int)) (m : Nat) : List (List Int) := (l.take m).map (fun a => a.map f) ++ l.drop m
def uArgsN (f : Int → Int) (l : List (List Int)) (m : Nat) : Nat := ((l.take m).map (fun a => uRowN f a a.length)).sum
theorem uArgs_len (f : Int → Int) (l : List (List Int)) {m : Nat} (hm : m ≤ l.length) : (uArgs f l m).length = l.length := by unfold uArgs; simp; omega
theorem uArgs_get (f : Int → Int) (l : List (List Int)) {m : Nat} (hm : m < l.length) : (uArgs f l m)[m]? = some l[m] := by
  unfold uArgs
  rw [List.getElem?_append_right (by simp; omega)]
  simp [Nat.min_eq_left (Nat.le_of_lt hm), List.getElem?_drop]
theorem uArgs_step (f : Int → Int) (l : List (List Int)) {m : Nat} (hm : m < l.length) : uArgs f l (m + 1) = (uArgs f l m).set m (l[m].map f) ∧ uArgsN f l (m + 1) = uArgsN f l m + uRowN f l[m] l[m].length := by
  have hl : ((l.take m).map (fun a => a.map f)).length = m := by simp; omega
  unfold uArgs uArgsN
  rw [List.take_succ_eq_append_getElem hm]
  refine ⟨?_, by rw [List.map_append, List.sum_append]; simp⟩
  rw [List.set_append_right _ _ (by omega), hl, Nat.sub_self, List.drop_eq_getElem_cons hm, List.set_cons_zero, List.map_append, List.append_assoc]
  rfl
theorem uArgs_zero (f : Int → Int) (l : List (List Int)) : uArgs f l 0 = l ∧ uArgsN f l 0 = 0 := by unfold uArgs uArgsN; simp
def uTestB (p : Pt) : Bool := testB p.go
/-- A part when all is done. -/
def partUf (f : Nat → Int → Int) (p : Pt) : Pt := { p with code := uCode f p.code p.code.length, test := if uTestB p then f p.code.length p.test else p.test, args := uArgs (f p.code.length) p.args p.args.length }
def partUc (f : Nat → Int → Int) (p : Pt) : Nat := uCodeN f p.code p.code.length + (if uTestB p then cntV (f p.code.length) p.test else 0) + uArgsN (f p.code.length) p.args p.args.length
/-- All parts when k are done. -/
def uAll (f : Nat → Pt → Nat → Int → Int) (l : List Pt) : Nat → List Pt
  | 0 => l
  | k + 1 => (uAll f l k).set k (partUf (f k (l.getD k zPt)) (l.getD k zPt))
def uAllN (f : Nat → Pt → Nat → Int → Int) (l : List Pt) : Nat → Nat
  | 0 => 0
  | k + 1 => uAllN f l k + partUc (f k (l.getD k zPt)) (l.getD k zPt)
theorem uAll_len (f : Nat → Pt → Nat → Int → Int) (l : List Pt) (k : Nat) : (uAll f l k).length = l.length := by
  induction k with
  | zero => rfl
  | succ k ih => unfold uAll; rw [List.length_set, ih]
theorem uAll_get (f : Nat → Pt → Nat → Int → Int) (l : List Pt) {k m : Nat} (h : k ≤ m) : (uAll f l k)[m]? = l[m]? := by
  induction k with
  | zero => rfl
  | succ k ih => unfold uAll; rw [List.getElem?_set, if_neg (by omega)]; exact ih (by omega)
noncomputable def fU (s : Sa) (k : Nat) (p : Pt) (j : Nat) : Int → Int := firstV (intsN (grpL s s.values.toNat)) (thU s k p j)
noncomputable def useS (s : Sa) : Sa := ⟨uAll (fU s) s.parts s.parts.length, s.values⟩
noncomputable def useN (s : Sa) : Nat := uAllN (fU s) s.parts s.parts.length
theorem uRowN_le (f : Int → Int) (l : List Int) (n : Nat) : uRowN f l n ≤ l.length := by
  unfold uRowN
  have : ∀ t : List Int, (t.map (cntV f)).sum ≤ t.length := by
    intro t
    induction t with
    | nil => simp
    | cons a t ih => simp only [List.map_cons, List.sum_cons, List.length_cons]; unfold cntV at ih ⊢; split <;> omega
  have := this (l.take n)
  rw [List.length_take] at this
  omega
theorem uArgsN_le (f : Int → Int) {l : List (List Int)} (m : Nat) {B : Nat} (h : ∀ a ∈ l, a.length ≤ B) : uArgsN f l m ≤ l.length * B := by
  unfold uArgsN
  have : ∀ t : List (List Int), (∀ a ∈ t, a.length ≤ B) → (t.map (fun a => uRowN f a a.length)).sum ≤ t.length * B := by
    intro t
    induction t with
    | nil => intro _; simp
    | cons a t ih =>
      intro ht
      have h1 := ih (fun b hb => ht b (List.mem_cons_of_mem _ hb))
      have h2 := ht a List.mem_cons_self
      have h3 := uRowN_le f a a.length
      simp only [List.map_cons, List.sum_cons, List.length_cons, Nat.succ_mul]; omega
  have h1 := this (l.take m) (fun a ha => h a (List.mem_of_mem_take ha))
  have h2 : (l.take m).length * B ≤ l.length * B := Nat.mul_le_mul_right _ (by rw [List.length_take]; omega)
  omega
theorem cntX_le (f : Int → Int) (x : Fl) : cntX f x ≤ 2 := by
  unfold cntX cntV
  repeat' split
  all_goals omega
theorem uCodeN_le (f : Nat → Int → Int) (l : List Fl) (j : Nat) : uCodeN f l j ≤ j * 2 := by
  induction j with
  | zero => exact Nat.le_refl _
  | succ j ih => unfold uCodeN; have := cntX_le (f j) (l.getD j fl0); omega
theorem partUc_le (f : Nat → Int → Int) {p : Pt} (h : PtOk p) : partUc f p ≤ 3300 ∧ ∀ j, j ≤ p.code.length → uCodeN f p.code j ≤ 200 := by
  unfold PtOk at h
  obtain ⟨h0, h1, h2, h3, h4⟩ := h
  have e1 := uCodeN_le f p.code p.code.length
  have e2 := uArgsN_le (f p.code.length) p.args.length h4
  have e3 : p.args.length * 300 ≤ 10 * 300 := Nat.mul_le_mul_right _ h3
  have e4 : (if uTestB p then cntV (f p.code.length) p.test else 0) ≤ 1 := by
    unfold cntV
    split
    · split <;> omega
    · omega
  refine ⟨by unfold partUc; omega, fun j hj => ?_⟩
  have := uCodeN_le f p.code j
  omega
theorem uAllN_le (f : Nat → Pt → Nat → Int → Int) {l : List Pt} (h : ∀ p ∈ l, PtOk p) {k : Nat} (hk : k ≤ l.length) : uAllN f l k ≤ k * 3300 := by
  induction k with
  | zero => exact Nat.le_refl _
  | succ k ih =>
    unfold uAllN
    have h1 := ih (by omega)
    have h2 := (partUc_le (f k (l.getD k zPt)) (p := l.getD k zPt) (by rw [List.getD_eq_getElem?_getD, List.getElem?_eq_getElem (by omega)]; exact h _ (List.getElem_mem (by omega)))).1
    omega
theorem partUf_ok (f : Nat → Int → Int) {p : Pt} (h : PtOk p) : PtOk (partUf f p) := by
  unfold PtOk at h ⊢
  obtain ⟨h0, h1, h2, h3, h4⟩ := h
  refine ⟨h0, by show (uCode f p.code p.code.length).length ≤ 100; rw [uCode_len]; exact h1, h2, by show (uArgs _ p.args p.args.length).length ≤ 10; rw [uArgs_len _ _ (Nat.le_refl _)]; exact h3, fun a ha => ?_⟩
  have ha : a ∈ uArgs (f p.code.length) p.args p.args.length := ha
  unfold uArgs at ha
  simp only [List.take_length, List.drop_length, List.append_nil] at ha
  obtain ⟨b, hb, rfl⟩ := List.mem_map.1 ha
  rw [List.length_map]; exact h4 b hb
theorem uAll_ok (f : Nat → Pt → Nat → Int → Int) {l : List Pt} (h : ∀ p ∈ l, PtOk p) (hz : PtOk zPt) (k : Nat) : ∀ p ∈ uAll f l k, PtOk p := by
  induction k with
  | zero => exact h
  | succ k ih =>
    intro p hp
    unfold uAll at hp
    rcases List.mem_or_eq_of_mem_set hp with hp | rfl
    · exact ih p hp
    · refine partUf_ok _ ?_
      rw [List.getD_eq_getElem?_getD]
      cases hk : l[k]? with
      | none => exact hz
      | some p => exact h p (List.mem_of_getElem? hk)
theorem useS_ok {s : Sa} (h : GoodP s) : PtsOk (useS s).parts := by
  refine ⟨by show (uAll _ _ _).length ≤ 100; rw [uAll_len]; have := h.n2; omega, uAll_ok _ (fun p hp => h.ptOk hp) ?_ _⟩
  unfold PtOk zPt
  exact ⟨by simp, by simp, by simp, by simp, fun a ha => by cases ha⟩
end Go.Proofs.YtnfaibenekninaaGreat.L

set_option linter.unusedVariables false
set_option linter.unusedSimpArgs false
namespace Go.Proofs.YtnfaibenekninaaGreat.L
open Go.RowKit
theorem entersBetter : Enters Tryz.prog 69 := enters Tryz.func69 (by kernel_rfl) (by kernel_rfl)
inductive BetRes (a : Addr) (mb cnt : Nat) (v f : Int) (W : World) (e : Ending) (w' : World) : Prop where
  | no (n : Nat) (h : Hid (f = v)) (he : e = .returned (.tuple #[])) (hw : w' = W.drewN n) : BetRes a mb cnt v f W e w'
  | yes (n : Nat) (h : Hid (f ≠ v)) (he : e = .returned (.tuple #[])) (hw : w' = ((W.drewN n).setCell a (.int .i64 f)).setCell ⟨mb, 0, none⟩ (.int .i64 ((cnt + 1 : Nat) : Int))) : BetRes a mb cnt v f W e w'
set_option maxRecDepth 100000 in
set_option maxHeartbeats 4000000 in
theorem better_calls (gl : List Int) (th : Int → Bool) (v pt at_ : Int) (pb po gb gg go_ gc b4 vb mb cnt : Nat) (W : World)
    (hp : W.cell? ⟨pb, po, none⟩ = some (.int .i64 v)) (hpf : W.frozen? ⟨pb, po, none⟩ = false) (hg : W.cell? ⟨gb, 0, none⟩ = some (.slice (some ⟨gg, go_, none⟩) gl.length gc)) (hgc : ∀ k, k < gl.length → W.cell? ⟨gg, go_ + k, none⟩ = some (.int .i64 (gl.getD k 0)))
    (hv4 : W.cell? ⟨b4, 0, none⟩ = some (.pointer (some ⟨vb, 0, none⟩))) (hm : W.cell? ⟨mb, 0, none⟩ = some (.int .i64 (cnt : Nat))) (hmf : W.frozen? ⟨mb, 0, none⟩ = false) (hmp : mb ≠ pb) (hc : cnt ≤ 1000000) (hgl : gl.length ≤ 1000) (hv : 0 ≤ v ∧ v < (gl.length : Int))
    (HT : ∀ (x : Int) (n : Nat), Calls Tryz.prog 70 #[.pointer (some ⟨vb, 0, none⟩), .int .i64 x, .int .i64 pt, .int .i64 at_] (W.drewN n) fun e w' => e = .returned (.bool (th x)) ∧ ∃ m, w' = (W.drewN n).drewN m) :
    Calls Tryz.prog 69 #[.pointer (some ⟨pb, po, none⟩), .int .i64 pt, .int .i64 at_, .pointer (some ⟨gb, 0, none⟩), .pointer (some ⟨b4, 0, none⟩), .pointer (some ⟨mb, 0, none⟩)] W (BetRes ⟨pb, po, none⟩ mb cnt v (firstV gl th v) W) := by
  obtain ⟨d, rfl⟩ := Int.eq_ofNat_of_zero_le hv.1
  have hdl : d < gl.length := by omega
  have cd := hgc d hdl
  have HTh := Lib.hid HT
  have hXh : Hid (∀ n : Nat, n < d → (∀ j, j < n → hitV gl th d j = false) → hitV gl th d n = true → firstV gl th d = n) := Lib.hid (fun n hn h1 h2 => firstV_hit (by simpa using hn) h1 h2)
  have hXn : Hid ((∀ j, j < d → hitV gl th d j = false) → firstV gl th d = d) := Lib.hid (fun h => firstV_none (fun j hj => h j (by simpa using hj)))
  have hXi : Hid (∀ n : Nat, hitV gl th d n = (gl.getD n 0 == gl.getD d 0 && th n)) := Lib.hid (fun n => rfl)
  obtain ⟨f, hf⟩ : ∃ f, f = firstV gl th d := ⟨_, rfl⟩
  rw [← hf] at hXh hXn ⊢
  obtain ⟨HI, hHI⟩ : ∃ HI, HI = hitV gl th d := ⟨_, rfl⟩
  rw [← hHI] at hXh hXn hXi
  obtain ⟨gd, hgd⟩ : ∃ gd, gd = gl.getD d 0 := ⟨_, rfl⟩
  rw [← hgd] at cd hXi
  clear hf hHI hgd HT hv
  have d0 : (0 : Int) ≤ (d : Int) := Int.natCast_nonneg _
  have d1 : (d : Int) < (gl.length : Int) := by omega
  go_enter Tryz.func69, Tryz.ntmps69
  go_wp2_with fail
  go_loopw [13] (fun x wr => ∃ i n : Nat, i ≤ d ∧ x = .int .i64 i ∧ Hid (∀ j, j < i → HI j = false) ∧ wr = W.drewN n) (fun x _ => d - (intOf x).toNat)
  case atStart => exact ⟨0, 0, Nat.zero_le _, rfl, Lib.hid (fun j h => by omega), rfl⟩
  case round =>
    obtain ⟨i, n, hi, rfl, HN, hwr⟩ := hrel
    rename World => wo
    replace hp : wo.cell? ⟨pb, po, none⟩ = some (.int .i64 (d : Int)) := by rw [hwr]; exact hp
    replace hpf : wo.frozen? ⟨pb, po, none⟩ = false := by rw [hwr]; exact hpf
    replace hg : wo.cell? ⟨gb, 0, none⟩ = some (.slice (some ⟨gg, go_, none⟩) gl.length gc) := by rw [hwr]; exact hg
    replace hv4 : wo.cell? ⟨b4, 0, none⟩ = some (.pointer (some ⟨vb, 0, none⟩)) := by rw [hwr]; exact hv4
    replace hm : wo.cell? ⟨mb, 0, none⟩ = some (.int .i64 (cnt : Nat)) := by rw [hwr]; exact hm
    replace hmf : wo.frozen? ⟨mb, 0, none⟩ = false := by rw [hwr]; exact hmf
    replace cd : wo.cell? ⟨gg, go_ + d, none⟩ = some (.int .i64 gd) := by rw [hwr]; exact cd
    have hgc2 : ∀ k, k < gl.length → wo.cell? ⟨gg, go_ + k, none⟩ = some (.int .i64 (gl.getD k 0)) := fun k hk => by rw [hwr]; exact hgc k hk
    have HTo : Hid (∀ (x : Int) (m : Nat), Calls Tryz.prog 70 #[.pointer (some ⟨vb, 0, none⟩), .int .i64 x, .int .i64 pt, .int .i64 at_] (wo.drewN m) fun e w' => e = .returned (.bool (th x)) ∧ ∃ m', w' = (wo.drewN m).drewN m') := Lib.hid (fun x m => by rw [hwr, World.drewN_drewN]; exact HTh.out x _)
    have hWR := Lib.hid hwr
    clear hwr
    by_cases hit : i < d
    · have ci : wo.cell? ⟨gg, go_ + i, none⟩ = some (.int .i64 (gl.getD i 0)) := hgc2 i (by omega)
      have hIi := Lib.hid (hXi.out i)
      have HTi := Lib.hid (fun m => HTo.out (i : Int) m)
      have HNx : Hid (HI i = false → ∀ j, j < i + 1 → HI j = false) := Lib.hid (fun h j hj => (Nat.lt_or_eq_of_le (Nat.le_of_lt_succ hj)).elim (fun h2 => HN.out j h2) (fun h2 => by subst h2; exact h))
      have HYx : Hid (HI i = true → f = i) := Lib.hid (fun h => hXh.out i hit HN.out h)
      obtain ⟨gi, hgi⟩ : ∃ gi, gi = gl.getD i 0 := ⟨_, rfl⟩
      rw [← hgi] at ci hIi
      obtain ⟨ti, hti⟩ : ∃ ti, ti = th i := ⟨_, rfl⟩
      rw [← hti] at hIi HTi
      clear hgi hti HN
      have i0 : (0 : Int) ≤ (i : Int) := Int.natCast_nonneg _
      have i1 : (i : Int) < (gl.length : Int) := by omega
      have i2 : (i : Int) < (d : Int) := by omega
      have hne : Hid ((i : Int) ≠ (d : Int)) := Lib.hid (by omega)
      by_cases hge : gi = gd
      · have hg2 : (gi == gd) = true := by simpa using hge
        have hg3 : (gi != gd) = false := by simpa using hge
        cases ti
        · have hn := Lib.hid (HNx.out (by rw [hIi.out, Bool.and_false]))
          clear HNx HYx hIi hgc hgc2 hXh hXn hXi HTh HTo hge
          go_wp2_with fail
          go_quiet (first | (go_at_call 70; exact Calls.quiet_of (HTi.out _)))
          go_wp2_with fail
          go_roundw
          case rel => exact ⟨i + 1, _, by omega, by go_num, hn, by rw [hWR.out, World.drewN_drewN]⟩
          case measure => simp [intOf]; omega
        · have hfe := HYx.out (by rw [hIi.out, hg2]; rfl)
          clear HNx HYx hIi hgc hgc2 hXh hXn hXi HTh HTo hge
          go_wp2_with fail
          go_quiet (first | (go_at_call 70; exact Calls.quiet_of (HTi.out _)))
          have k1 : (wo.drewN nq).cell? ⟨pb, po, none⟩ = some (.int .i64 (d : Int)) := hp
          have k2 : (wo.drewN nq).frozen? ⟨pb, po, none⟩ = false := hpf
          have hS := Chg.set (A := fun q => q = pb) (w := wo.drewN nq) (b := pb) (o := po) (u := .int .i64 (i : Int)) rfl
          have k3 : ((wo.drewN nq).setCell ⟨pb, po, none⟩ (.int .i64 (i : Int))).cell? ⟨mb, 0, none⟩ = some (.int .i64 (cnt : Nat)) := hS.cell (show (wo.drewN nq).cell? ⟨mb, 0, none⟩ = _ from hm) hmp
          have k4 : ((wo.drewN nq).setCell ⟨pb, po, none⟩ (.int .i64 (i : Int))).frozen? ⟨mb, 0, none⟩ = false := by
            have h := hS.block mb (World.block_lt_of_cell? _ _ (show (wo.drewN nq).cell? ⟨mb, 0, none⟩ = _ from hm)) hmp
            have h2 : (wo.drewN nq).frozen? ⟨mb, 0, none⟩ = false := hmf
            simpa [World.frozen?, h] using h2
          have hwc : IntKind.i64.wrap (((cnt : Nat) : Int) + 1) = ((cnt + 1 : Nat) : Int) := by rw [IntWalk.i64_in _ (by omega)]; omega
          have hVH : Hid (wo.drewN nq = W.drewN (n + nq)) := Lib.hid (by rw [hWR.out, World.drewN_drewN])
          clear hS hp hpf hg hv4 hm hmf ci cd
          generalize wo.drewN nq = V at *
          go_wp2
          refine bodyPost_end (results_none (by first | rfl | exact Tryz.results69 | kernel_rfl) _ _ _) rfl ?_
          exact .yes (n + nq) (Lib.hid (by rw [hfe]; exact hne.out)) rfl (by rw [hVH.out, hfe]; rfl)
      · have hg2 : (gi == gd) = false := by simpa using hge
        have hg3 : (gi != gd) = true := by simpa using hge
        have hn := Lib.hid (HNx.out (by rw [hIi.out, hg2]; rfl))
        clear HNx HYx hIi hgc hgc2 hXh hXn hXi HTh HTo hge
        go_wp2_with fail
        go_quiet (fail)
        go_wp2_with fail
        go_roundw
        case rel => exact ⟨i + 1, _, by omega, by go_num, hn, by rw [hWR.out, World.drewN_drewN]⟩
        case measure => simp [intOf]; omega
    · obtain rfl : i = d := by omega
      have hfe := Lib.hid (hXn.out HN.out)
      go_wp2
      refine bodyPost_end (results_none (by first | rfl | exact Tryz.results69 | kernel_rfl) _ _ _) rfl ?_
      exact .no n hfe rfl hWR.out
end Go.Proofs.YtnfaibenekninaaGreat.L

set_option linter.unusedVariables false
set_option linter.unusedSimpArgs false
namespace Go.Proofs.YtnfaibenekninaaGreat.L
open Go.RowKit
theorem Chg.froz {A : Nat → Prop} {w w1 : World} (h : Chg A w w1) {g o : Nat} (hg : g < w.heap.size) (hA : ¬ A g) : w1.frozen? ⟨g, o, none⟩ = w.frozen? ⟨g, o, none⟩ := by simp [World.frozen?, h.block g hg hA]
section
variable {F : Nat → Prop} {g n c : Nat} {L : List Pt} {w : World} {k : Nat}
theorem ow_read (HO : Ow true 67 partA w F (.slice (some ⟨g, 0, none⟩) n c) L) (hk : k < L.length) :
    ∃ vp vc vn va, partAt w g (k * 6) L[k] vp vc vn va ∧ Rp.Rd Rp.int w F vp L[k].params ∧ Rp.Rd flat w F vc L[k].code ∧ Rp.Rd Rp.int w F vn L[k].next ∧ Rp.Rd (Rp.sl Rp.int) w F va L[k].args := by
  obtain ⟨Fr, Gk, us, hFr, hGk, hK, H⟩ := HO.hole hk
  obtain ⟨G0, G1, G2, G3, e0, e1, e2, e3, _, _, _, _, _, _, vp, vc, vn, va, rfl, k0, k1, k2, k3⟩ := partA_open hK
  exact ⟨vp, vc, vn, va, ⟨H.cell0 partA_sz rfl, H.cellj 1 partA_sz rfl, H.cellj 2 partA_sz rfl, H.cellj 3 partA_sz rfl, H.cellj 4 partA_sz rfl, H.cellj 5 partA_sz rfl⟩,
    k0.rd.mono (fun q hq => (hGk q (e0 q hq)).1), k1.rd.mono (fun q hq => (hGk q (e1 q hq)).1), k2.rd.mono (fun q hq => (hGk q (e2 q hq)).1), ((Rp.Le.ow (Rp.Le.refl Rp.int)).rd k3.rd).mono (fun q hq => (hGk q (e3 q hq)).1)⟩
theorem ow_code (HO : Ow true 67 partA w F (.slice (some ⟨g, 0, none⟩) n c) L) (hk : k < L.length) :
    ∃ (vc : Value) (G : Nat → Prop), w.cell? ⟨g, k * 6 + 1, none⟩ = some vc ∧ (∀ o, w.frozen? ⟨g, o, none⟩ = false) ∧ Ow true 71 flat w G vc L[k].code ∧ (∀ q, G q → F q ∧ q ≠ g ∧ q < w.heap.size) ∧ (F g ∧ g < w.heap.size) ∧
    ∀ (w' : World) (G' : Nat → Prop) (vc' : Value) (l' : List Fl), Chg G w w' → Ow true 71 flat w' G' vc' l' → (∀ q, G' q → G q ∨ w.heap.size ≤ q) →
      Ow true 67 partA (w'.setCell ⟨g, k * 6 + 1, none⟩ vc') (fun q => F q ∨ G' q) (.slice (some ⟨g, 0, none⟩) n c) (L.set k { L[k] with code := l' }) := by
  obtain ⟨Fr, Gk, us, hFr, hGk, hK, H⟩ := HO.bound.hole hk
  obtain ⟨G0, G1, G2, G3, e0, e1, e2, e3, d01, d02, d03, d12, d13, d23, vp, vc, vn, va, rfl, k0, k1, k2, k3⟩ := partA_open hK
  have hgs := hFr g H.lt.1
  refine ⟨vc, G1, H.cellj 1 partA_sz rfl, H.free, k1, fun q hq => ⟨(hGk q (e1 q hq)).1.1, (hGk q (e1 q hq)).2.2, (hGk q (e1 q hq)).1.2⟩, hgs, fun w' G' vc' l' hC hO' hG' => ?_⟩
  have hS := Chg.set (A := fun q => q = g) (w := w') (b := g) (o := k * 6 + 1) (u := vc') rfl
  have ne : ∀ q, Gk q → q ≠ g := fun q hq => (hGk q hq).2.2
  have lt : ∀ q, Gk q → q < w.heap.size := fun q hq => (hGk q hq).1.2
  have hG'n : ∀ q, G' q → q ≠ g := fun q hq => by
    rcases hG' q hq with h | h
    · exact ne q (e1 q h)
    · have := hgs.2; omega
  have m0 := (k0.move (hC.same (fun q hq h => d01 q hq h))).move (hS.same (fun q hq h => ne q (e0 q hq) h))
  have m2 := (k2.move (hC.same (fun q hq h => d12 q h hq))).move (hS.same (fun q hq h => ne q (e2 q hq) h))
  have m3 := (k3.move (hC.same (fun q hq h => d13 q h hq))).move (hS.same (fun q hq h => ne q (e3 q hq) h))
  have m1 := hO'.move (hS.same (fun q hq h => hG'n q hq h))
  have H2 := (H.chg hC (fun q hq h => (hGk q (e1 q hq)).2.1 h)).setj partA_sz (j := 1) (by decide) vc'
  have dis : ∀ q, G' q → ∀ G : Nat → Prop, (∀ q, G q → Gk q) → (∀ q, G1 q → ¬ G q) → ¬ G q := fun q hq G hGG h1 h => by
    rcases hG' q hq with h' | h'
    · exact h1 q h' h
    · have := lt q (hGG q h); omega
  have hK' := partA_mk (F := fun q => Gk q ∨ G' q) (x := { L[k] with code := l' }) (fun q hq => .inl (e0 q hq)) (fun q hq => .inr hq) (fun q hq => .inl (e2 q hq)) (fun q hq => .inl (e3 q hq))
    (fun q h h' => dis q h' G0 e0 (fun q h1 h0 => d01 q h0 h1) h) d02 d03 (fun q h h' => dis q h G2 e2 d12 h') (fun q h h' => dis q h G3 e3 d13 h') d23 m0 m1 m2 m3
  refine (H2.close hK' (fun q hq h => ?_)).mono (fun q hq => ?_)
  · rcases hq with hq | hq
    · exact (hGk q hq).2.1 h
    · rcases hG' q hq with h' | h'
      · exact (hGk q (e1 q h')).2.1 h
      · have := (hFr q h).2; omega
  · rcases hq with hq | hq | hq
    · exact .inl (hFr q hq).1
    · exact .inl (hGk q hq).1.1
    · exact .inr hq
theorem ow_params (HO : Ow true 67 partA w F (.slice (some ⟨g, 0, none⟩) n c) L) (hk : k < L.length) :
    ∃ (vc : Value) (G : Nat → Prop), w.cell? ⟨g, k * 6, none⟩ = some vc ∧ (∀ o, w.frozen? ⟨g, o, none⟩ = false) ∧ Ow true 3 Rp.int w G vc L[k].params ∧ (∀ q, G q → F q ∧ q ≠ g ∧ q < w.heap.size) ∧ (F g ∧ g < w.heap.size) ∧
    ∀ (w' : World) (G' : Nat → Prop) (vc' : Value) (l' : List Int), Chg G w w' → Ow true 3 Rp.int w' G' vc' l' → (∀ q, G' q → G q ∨ w.heap.size ≤ q) →
      Ow true 67 partA (w'.setCell ⟨g, k * 6, none⟩ vc') (fun q => F q ∨ G' q) (.slice (some ⟨g, 0, none⟩) n c) (L.set k { L[k] with params := l' }) := by
  obtain ⟨Fr, Gk, us, hFr, hGk, hK, H⟩ := HO.bound.hole hk
  obtain ⟨G0, G1, G2, G3, e0, e1, e2, e3, d01, d02, d03, d12, d13, d23, vp, vc, vn, va, rfl, k0, k1, k2, k3⟩ := partA_open hK
  have hgs := hFr g H.lt.1
  refine ⟨vp, G0, H.cell0 partA_sz rfl, H.free, k0, fun q hq => ⟨(hGk q (e0 q hq)).1.1, (hGk q (e0 q hq)).2.2, (hGk q (e0 q hq)).1.2⟩, hgs, fun w' G' vc' l' hC hO' hG' => ?_⟩
  have hS := Chg.set (A := fun q => q = g) (w := w') (b := g) (o := k * 6) (u := vc') rfl
  have ne : ∀ q, Gk q → q ≠ g := fun q hq => (hGk q hq).2.2
  have lt : ∀ q, Gk q → q < w.heap.size := fun q hq => (hGk q hq).1.2
  have hG'n : ∀ q, G' q → q ≠ g := fun q hq => by
    rcases hG' q hq with h | h
    · exact ne q (e0 q h)
    · have := hgs.2; omega
  have m1 := (k1.move (hC.same (fun q hq h => d01 q h hq))).move (hS.same (fun q hq h => ne q (e1 q hq) h))
  have m2 := (k2.move (hC.same (fun q hq h => d02 q h hq))).move (hS.same (fun q hq h => ne q (e2 q hq) h))
  have m3 := (k3.move (hC.same (fun q hq h => d03 q h hq))).move (hS.same (fun q hq h => ne q (e3 q hq) h))
  have m0 := hO'.move (hS.same (fun q hq h => hG'n q hq h))
  have H2 := (H.chg hC (fun q hq h => (hGk q (e0 q hq)).2.1 h)).set0 partA_sz (by decide) vc'
  have dis : ∀ q, G' q → ∀ G : Nat → Prop, (∀ q, G q → Gk q) → (∀ q, G0 q → ¬ G q) → ¬ G q := fun q hq G hGG h1 h => by
    rcases hG' q hq with h' | h'
    · exact h1 q h' h
    · have := lt q (hGG q h); omega
  have hK' := partA_mk (F := fun q => Gk q ∨ G' q) (x := { L[k] with params := l' }) (fun q hq => .inr hq) (fun q hq => .inl (e1 q hq)) (fun q hq => .inl (e2 q hq)) (fun q hq => .inl (e3 q hq))
    (fun q h h' => dis q h G1 e1 d01 h') (fun q h h' => dis q h G2 e2 d02 h') (fun q h h' => dis q h G3 e3 d03 h') d12 d13 d23 m0 m1 m2 m3
  refine (H2.close hK' (fun q hq h => ?_)).mono (fun q hq => ?_)
  · rcases hq with hq | hq
    · exact (hGk q hq).2.1 h
    · rcases hG' q hq with h' | h'
      · exact (hGk q (e0 q h')).2.1 h
      · have := (hFr q h).2; omega
  · rcases hq with hq | hq | hq
    · exact .inl (hFr q hq).1
    · exact .inl (hGk q hq).1.1
    · exact .inr hq
theorem ow_arg {i : Nat} (HO : Ow true 67 partA w F (.slice (some ⟨g, 0, none⟩) n c) L) (hk : k < L.length) (hi : i < L[k].args.length) :
    ∃ (ga ca : Nat) (u : Value) (G : Nat → Prop), w.cell? ⟨g, k * 6 + 5, none⟩ = some (.slice (some ⟨ga, 0, none⟩) L[k].args.length ca) ∧ w.cell? ⟨ga, i, none⟩ = some u ∧ (∀ o, w.frozen? ⟨ga, o, none⟩ = false) ∧ Ow true 3 Rp.int w G u L[k].args[i] ∧ (∀ q, G q → F q ∧ q ≠ ga ∧ q ≠ g ∧ q < w.heap.size) ∧ (F ga ∧ ga < w.heap.size ∧ ga ≠ g) ∧
    ∀ (w' : World) (G' : Nat → Prop) (u' : Value) (l' : List Int), Chg G w w' → Ow true 3 Rp.int w' G' u' l' → (∀ q, G' q → G q ∨ w.heap.size ≤ q) →
      Ow true 67 partA (w'.setCell ⟨ga, i, none⟩ u') (fun q => F q ∨ G' q) (.slice (some ⟨g, 0, none⟩) n c) (L.set k { L[k] with args := L[k].args.set i l' }) := by
  obtain ⟨Fr, Gk, us, hFr, hGk, hK, H⟩ := HO.bound.hole hk
  obtain ⟨G0, G1, G2, G3, e0, e1, e2, e3, d01, d02, d03, d12, d13, d23, vp, vc, vn, va, rfl, k0, k1, k2, k3⟩ := partA_open hK
  have hgs := hFr g H.lt.1
  obtain ⟨ga, ca, rfl, _, _⟩ := Ow.some_form k3 (by omega)
  obtain ⟨Fr4, Gk4, us4, hFr4, hGk4, hK4, H4⟩ := k3.hole hi
  obtain ⟨u, rfl, hOu⟩ := hK4
  have ne : ∀ q, Gk q → q ≠ g := fun q hq => (hGk q hq).2.2
  have lt : ∀ q, Gk q → q < w.heap.size := fun q hq => (hGk q hq).1.2
  have hga3 : G3 ga := hFr4 ga H4.lt.1
  have hga := e3 ga hga3
  have G4k : ∀ q, Gk4 q → Gk q := fun q hq => e3 q (hGk4 q hq).1
  refine ⟨ga, ca, u, Gk4, H.cellj 5 partA_sz rfl, H4.cell1 rfl rfl, H4.free, hOu, fun q hq => ⟨(hGk q (G4k q hq)).1.1, (hGk4 q hq).2.2, ne q (G4k q hq), lt q (G4k q hq)⟩, ⟨(hGk ga hga).1.1, lt ga hga, ne ga hga⟩, fun w' G' u' l' hC hO' hG' => ?_⟩
  have hS := Chg.set (A := fun q => q = ga) (w := w') (b := ga) (o := i) (u := u') rfl
  have hG'n : ∀ q, G' q → q ≠ ga := fun q hq => by
    rcases hG' q hq with h | h
    · exact (hGk4 q h).2.2
    · have := lt ga hga; omega
  have m0 := (k0.move (hC.same (fun q hq h => d03 q hq (hGk4 q h).1))).move (hS.same (fun q hq h => by subst h; exact d03 q hq hga3))
  have m1 := (k1.move (hC.same (fun q hq h => d13 q hq (hGk4 q h).1))).move (hS.same (fun q hq h => by subst h; exact d13 q hq hga3))
  have m2 := (k2.move (hC.same (fun q hq h => d23 q hq (hGk4 q h).1))).move (hS.same (fun q hq h => by subst h; exact d23 q hq hga3))
  have mu := hO'.move (hS.same (fun q hq h => hG'n q hq h))
  have H4' := (H4.chg hC (fun q hq h => (hGk4 q hq).2.1 h)).set1 rfl u'
  have H2 := (H.chg hC (fun q hq h => (hGk q (G4k q hq)).2.1 h)).chg hS (fun q hq h => by
    have hq : q = ga := hq
    subst hq; exact (hGk q hga).2.1 h)
  have hK4' : (Rp.ow true 3 Rp.int).K (w'.setCell ⟨ga, i, none⟩ u') G' l' [u'] := ⟨u', rfl, mu⟩
  have m3 := H4'.close hK4' (fun q hq h => by
    rcases hG' q hq with h' | h'
    · exact (hGk4 q h').2.1 h
    · have := lt q (e3 q (hFr4 q h)); omega)
  have in3 : ∀ q, Fr4 q ∨ G' q → G3 q ∨ w.heap.size ≤ q := fun q hq => by
    rcases hq with hq | hq
    · exact .inl (hFr4 q hq)
    · rcases hG' q hq with h' | h'
      · exact .inl (hGk4 q h').1
      · exact .inr h'
  have dis : ∀ q, (Fr4 q ∨ G' q) → ∀ G : Nat → Prop, (∀ q, G q → Gk q) → (∀ q, G q → ¬ G3 q) → ¬ G q := fun q hq G hGG h1 h => by
    rcases in3 q hq with h' | h'
    · exact h1 q h h'
    · have := lt q (hGG q h); omega
  have hK' := partA_mk (F := fun q => Gk q ∨ G' q) (x := { L[k] with args := L[k].args.set i l' }) (fun q hq => .inl (e0 q hq)) (fun q hq => .inl (e1 q hq)) (fun q hq => .inl (e2 q hq)) (fun q hq => hq.elim (fun h => .inl (e3 q (hFr4 q h))) .inr)
    d01 d02 (fun q h h' => dis q h' G0 e0 d03 h) d12 (fun q h h' => dis q h' G1 e1 d13 h) (fun q h h' => dis q h' G2 e2 d23 h) m0 m1 m2 m3
  refine (H2.close hK' (fun q hq h => ?_)).mono (fun q hq => ?_)
  · rcases hq with hq | hq
    · exact (hGk q hq).2.1 h
    · rcases hG' q hq with h' | h'
      · exact (hGk q (G4k q h')).2.1 h
      · have := (hFr q h).2; omega
  · rcases hq with hq | hq | hq
    · exact .inl (hFr q hq).1
    · exact .inl (hGk q hq).1.1
    · exact .inr hq
end
end Go.Proofs.YtnfaibenekninaaGreat.L
