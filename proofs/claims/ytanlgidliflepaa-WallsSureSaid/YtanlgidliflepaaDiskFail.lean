/- sectors.Fail. Conditions: none. -/
import Derived.Test.YtanlgidliflepaaDiskRead
import Derived.WalkLawsBesides
namespace Go.Proofs.Ytanlgidliflepaa
open Go.RowKit

/-- What a write that is kept leaves of a disk. -/
def keepOne (keep : Nat) (torn : Int) (i : Nat) (x : Nat × List UInt8) (sure : List UInt8) : List UInt8 :=
  if keep / 2 ^ min i 64 % 2 = 0 then sure else splice sure (x.1 * 64) (x.2.take (if (i : Int) = torn then 32 else 64))
def keepTo (keep : Nat) (torn : Int) (ws : List (Nat × List UInt8)) (sure : List UInt8) : Nat → List UInt8
  | 0 => sure
  | k + 1 => match ws[k]? with
    | none => keepTo keep torn ws sure k
    | some x => keepOne keep torn k x (keepTo keep torn ws sure k)
def Dk.fail (S : Dk) (keep : Nat) (torn : Int) : Dk := { n := S.n, sure := keepTo keep torn S.waits S.sure S.waits.length, seen := keepTo keep torn S.waits S.sure S.waits.length, waits := [] }

theorem keepTo_length {S : Dk} (h : S.ok) (keep : Nat) (torn : Int) : ∀ k, (keepTo keep torn S.waits S.sure k).length = S.n * 64
  | 0 => h.sure
  | k + 1 => by
    have ih := keepTo_length h keep torn k
    unfold keepTo
    cases hw : S.waits[k]? with
    | none => exact ih
    | some x =>
      obtain ⟨h1, h2⟩ := h.waits x (List.mem_of_getElem? hw)
      simp only [keepOne]
      split
      · exact ih
      · rw [splice_length _ _ _ (by rw [ih, List.length_take]; split <;> omega)]; exact ih
theorem Dk.fail_ok {S : Dk} (h : S.ok) (keep : Nat) (torn : Int) : (S.fail keep torn).ok := ⟨h.pos, h.most, keepTo_length h keep torn _, keepTo_length h keep torn _, by simp [Dk.fail]⟩

theorem wcells_length : ∀ (ws : List (Nat × List UInt8)), (∀ x ∈ ws, x.2.length = 64) → (wcells ws).length = ws.length * 65
  | [], _ => rfl
  | x :: ws, h => by
    have := wcells_length ws (fun y hy => h y (List.mem_cons_of_mem _ hy))
    have hx := h x (List.mem_cons_self ..)
    simp only [wcells, List.flatMap_cons] at this ⊢
    rw [List.length_append, this, List.length_cons, bvals_length, hx, List.length_cons]; omega
theorem wcells_drop : ∀ (ws : List (Nat × List UInt8)) (k : Nat) (x : Nat × List UInt8), (∀ x ∈ ws, x.2.length = 64) → ws[k]? = some x → ∃ rest, (wcells ws).drop (k * 65) = (Value.int .i64 x.1 :: bvals x.2) ++ rest
  | [], _, _, _, h => by simp at h
  | y :: ws, 0, x, _, h => by
    simp at h; subst h
    exact ⟨wcells ws, by simp [wcells]⟩
  | y :: ws, k + 1, x, hl, h => by
    have hy := hl y (List.mem_cons_self ..)
    obtain ⟨rest, hr⟩ := wcells_drop ws k x (fun z hz => hl z (List.mem_cons_of_mem _ hz)) (by simpa using h)
    refine ⟨rest, ?_⟩
    have e : wcells (y :: ws) = (Value.int .i64 y.1 :: bvals y.2) ++ wcells ws := by simp [wcells]
    rw [e, show (k + 1) * 65 = (Value.int .i64 (y.1 : Int) :: bvals y.2).length + k * 65 from by rw [List.length_cons, bvals_length, hy]; omega, List.drop_append, List.drop_eq_nil_of_le (by omega), List.nil_append]
    rw [show (Value.int .i64 (y.1 : Int) :: bvals y.2).length + k * 65 - (Value.int .i64 (y.1 : Int) :: bvals y.2).length = k * 65 from by omega]
    exact hr
theorem rows_write {w : World} {g cap : Nat} {ws : List (Nat × List UInt8)} (h : w.ownsRow 0 66 65 (.slice (some ⟨g, 0, none⟩) ws.length cap) ws.length (wcells ws)) (hl : ∀ x ∈ ws, x.2.length = 64) (k : Nat) (x : Nat × List UInt8) (hx : ws[k]? = some x) :
    w.rangeAt g (k * 65) (Value.int .i64 x.1 :: bvals x.2) := by
  intro j v hv
  obtain ⟨rest, hr⟩ := wcells_drop ws k x hl hx
  have hj : j < (Value.int .i64 (x.1 : Int) :: bvals x.2).length := (List.getElem?_eq_some_iff.1 hv).1
  have e : (wcells ws)[k * 65 + j]? = some v := by rw [← List.getElem?_drop, hr, List.getElem?_append_left hj]; exact hv
  have := h.cells (g := g) rfl (k * 65 + j) v e
  rwa [Addr.add_mid, Nat.zero_add] at this

theorem zero_write : ∀ w, (zeroValue 66).run Try.prog w = .ok (.agg (Value.int .i64 0 :: bvals (zeros 64)).toArray) w := fun _ => by kernel_rfl
theorem size_write : (Try.prog.info? 66).map (·.size) = some 65 := by kernel_rfl

theorem size_u8 : (Try.prog.info? 5).map (·.size) = some 1 := by kernel_rfl
theorem src_write {W : World} {Q : Nat} {t : TypeId} {x : Nat × List UInt8} {cs : List Value} (hcs : (Value.int .i64 (x.1 : Int) :: bvals x.2) = cs) (h : W.heap[Q]? = some (.cells cs.toArray t (0, 0))) (m : Nat) : ∀ j v, (bvals (x.2.take m))[j]? = some v → W.drew.cell? ((⟨Q, 1, none⟩ : Addr).add j) = some v := by
  intro j v hv
  rw [Addr.add_mid]
  have e := cell_of_row W.drew Q (1 + j) cs.toArray t (0, 0) h
  refine e.trans ?_
  rw [bvals_take, List.getElem?_take] at hv
  split at hv
  · subst hcs; rw [Nat.add_comm]; simpa using hv
  · cases hv

set_option maxHeartbeats 2000000 in
set_option maxRecDepth 100000 in
theorem fail_any (D : Nat) (S : Dk) (fp : Nat → Prop) (keep : Nat) (torn : Int) (w : World) (h : IsDsk w D S fp) (hk : keep < 18446744073709551616) (ht : -1 ≤ torn) (ht2 : torn ≤ 9223372036854775807) (hw : S.waits.length ≤ 1000000000) :
    Calls Try.prog 13 #[.pointer (some ⟨D, 0, none⟩), .int .u64 keep, .int .i64 torn] w fun e w' => ∃ L, e = .returned (.tuple #[.pointer (some ⟨L, 0, none⟩), .int .i64 0]) ∧ IsDsk w' L (S.fail keep torn) (since w.heap.size w'.heap.size) ∧ Fr noBlk w w' := by
  have hsz := Lib.hid (size_any D S fp w h)
  obtain ⟨g1, c1, g2, c2, v3, hd⟩ := h
  have hp := hd.ok.pos
  have hm := hd.ok.most
  have hne : ((S.n : Int) == 0) = false := by rw [beq_eq_false_iff_ne]; omega
  have hc0 := blk_cell hd.blk 0 rfl
  have HC := Lib.hid (cloneP_any g1 S.n c1 (bvals S.sure) w hm hd.r1 (bvals_one _))
  obtain ⟨a3, c3, rfl, ha3⟩ := row_slice hd.r3
  go_enter Try.func13, Try.ntmps13
  go_wp2_with (first | (go_at_call 22; refine hsz.out.mono ?_; rintro e w' ⟨rfl, rfl⟩) | (go_at_call 27; refine HC.out.mono ?_; rintro e w1 ⟨v1, rfl, hown1, hfr1⟩; obtain ⟨a1, cc, rfl, ha1⟩ := row_slice hown1; obtain ⟨gL, rfl, hgL⟩ := ha1.resolve_left (by omega); have hc2 : w1.cell? ⟨D, 2, none⟩ = some (.slice a3 S.waits.length c3) := hfr1.cell (blk_cell hd.blk 2 rfl) (not_noBlk _); have hlt1 := hfr1.size; have hD1 : D < w1.heap.size := World.block_lt_of_cell? w1 ⟨D, 2, none⟩ hc2))
  generalize hq : w1.heap.size = L at *
  have hgL1 : gL < L := by obtain ⟨_, h', _⟩ := row_open hown1; rw [← hq]; exact blk_lt h'
  have hwl : ∀ x ∈ S.waits, x.2.length = 64 := fun x hx => (hd.ok.waits x hx).2
  have hbel1 : Below w.heap.size w w1 := hfr1.below (Nat.le_refl _) (fun _ h => h.elim)
  go_loopw [31] (fun i wr => ∃ k : Nat, k ≤ S.waits.length ∧ i = .int .i64 k ∧ wr.heap[L]? = some (.cells #[.slice (some ⟨gL, 0, none⟩) S.n cc, .slice none 0 0, .slice none 0 0] 40 (0, 0)) ∧ wr.ownsRow 0 64 64 (.slice (some ⟨gL, 0, none⟩) S.n cc) S.n (bvals (keepTo keep torn S.waits S.sure k)) ∧ Below w.heap.size w wr) (fun i _ => S.waits.length - (intOf i).toNat)
  case atStart =>
    refine ⟨0, by omega, rfl, ?_, ?_, hbel1.alloc (by omega) _⟩
    · rw [← hq]; exact heap_alloc_new _ _
    · have h' := hown1.alloc (Obj.cells #[Value.slice (some ⟨gL, 0, none⟩) S.n cc, Value.slice none 0 0, Value.slice none 0 0] 40)
      exact ⟨h'.1, h'.2.imp id (fun ⟨g, cap, cur, e, _, r⟩ => ⟨g, cap, cur, e, Nat.zero_le _, r⟩)⟩
  case round =>
    obtain ⟨k, hkk, rfl, hL, hrow, hbel⟩ := hrel
    by_cases hlt : k < S.waits.length
    · obtain ⟨g3, rfl, _⟩ := ha3.resolve_left (by omega)
      obtain ⟨x, hx⟩ : ∃ x, S.waits[k]? = some x := ⟨_, List.getElem?_eq_getElem hlt⟩
      have hr3 : w.rangeAt g3 (k * 65) (Value.int .i64 x.1 :: bvals x.2) := rows_write hd.r3 hwl k x hx
      have hx1 := (hd.ok.waits x (List.mem_of_getElem? hx)).1
      have hx2 := (hd.ok.waits x (List.mem_of_getElem? hx)).2
      have hr3' : wr.rangeAt g3 (k * 65) (Value.int .i64 x.1 :: bvals x.2) := fun j v hv => (hbel.cell (p := ⟨g3, k * 65 + j, none⟩) (World.block_lt_of_cell? w ⟨g3, k * 65 + j, none⟩ (hr3 j v hv))).trans (hr3 j v hv)
      have hlen : (Value.int .i64 (x.1 : Int) :: bvals x.2).length = 65 := by rw [List.length_cons, bvals_length, hx2]
      have hone : ∀ v ∈ (Value.int .i64 (x.1 : Int) :: bvals x.2), v.oneCell' = true := by
        intro v hv
        rcases List.mem_cons.1 hv with rfl | hv
        · rfl
        · exact bvals_one _ v hv
      generalize hcs : (Value.int .i64 (x.1 : Int) :: bvals x.2) = cs at *
      have HCS := Lib.hid hcs
      clear hcs
      have hsz66 : (Try.prog.info? 66).map (·.size) = some cs.length := by rw [hlen]; exact size_write
      have hsz66' : (Try.prog.info? 66).map (·.size) = some cs.toArray.size := by rw [List.size_toArray, hlen]; exact size_write
      have hz := zero_write
      have hold : (Value.int .i64 0 :: bvals (zeros 64)).toArray.size = cs.toArray.size := by rw [List.size_toArray, List.size_toArray, hlen]; simp [bvals, zeros]
      have hq9 : L < wr.heap.size := blk_lt hL
      have hg9 : gL < wr.heap.size := by obtain ⟨_, h', _⟩ := row_open hrow; exact blk_lt h'
      obtain ⟨Q, hQ⟩ : ∃ Q, wr.heap.size = Q := ⟨_, rfl⟩
      have HQ := Lib.hid hQ
      have hf7 : Fr noBlk wr ((wr.alloc (.cells (Value.int .i64 0 :: bvals (zeros 64)).toArray 66)).setRow Q cs.toArray) := (Fr.alloc wr _).trans (Fr.setRow _ _ _) (fun j e => by right; have e' : j = Q := e; omega)
      have hWq : ((wr.alloc (.cells (Value.int .i64 0 :: bvals (zeros 64)).toArray 66)).setRow Q cs.toArray).heap[Q]? = some (.cells cs.toArray 66 (0, 0)) := setRow_heap _ _ _ _ _ _ (by rw [← hQ]; exact heap_alloc_new _ _)
      clear hQ
      have hc00 : cs.toArray[0]? = some (.int .i64 (x.1 : Int)) := by rw [← HCS.out]; rfl
      by_cases h64 : 64 < k
      · have hb : bits BinOp.and IntKind.u64 ((keep : Int) / 18446744073709551616) 1 = 0 := by rw [and_one_u64 _ (by omega) (by omega)]; omega
        go_wp2_with (first | (refine wpList_load_mid rfl 66 (.tmp 34) rfl g3 (k * 65) rfl cs _ hr3' Try.underlying66 rfl hsz66 ?_) | (refine wpList_store_row rfl 66 (.tmp 10) (.tmp 35) rfl _ cs.toArray rfl rfl 66 _ (heap_alloc_new _ _) hsz66' hold (all_oneCell_toArray hone) ?_; rw [HQ.out]))
        go_roundw
        case rel =>
          refine ⟨k + 1, by omega, by go_num, hf7.blk hL (not_noBlk _), ?_, hbel.trans (hf7.below hbel.size (fun _ h => h.elim))⟩
          have e : keepTo keep torn S.waits S.sure (k + 1) = keepTo keep torn S.waits S.sure k := by
            simp only [keepTo, hx, keepOne]
            rw [if_pos]
            rw [show min k 64 = 64 from by omega]; omega
          rw [e]; exact hf7.row hrow (fun _ _ => not_noBlk _)
        case measure => simp [intOf]; omega
      · have hk64 : ¬ (64 : Int) < (k : Int) := by omega
        have hpow : keep / 2 ^ k < 18446744073709551616 := Nat.lt_of_le_of_lt (Nat.div_le_self _ _) hk
        have hcast : ((keep : Int) / 2 ^ k) = ((keep / 2 ^ k : Nat) : Int) := by simp
        have hb0 : bits BinOp.and IntKind.u64 ((keep : Int) / 2 ^ k) 1 = ((keep / 2 ^ k % 2 : Nat) : Int) := by
          rw [hcast]
          generalize keep / 2 ^ k = e at hpow ⊢
          rw [and_one_u64 _ (by omega) (by omega)]; omega
        clear hcast
        have hmin : min k 64 = k := by omega
        by_cases hbit : keep / 2 ^ k % 2 = 0
        · have hb : bits BinOp.and IntKind.u64 ((keep : Int) / 2 ^ k) 1 = 0 := by rw [hb0, hbit]; rfl
          clear hb0
          have HBIT := Lib.hid hbit
          clear hbit
          have HMIN := Lib.hid hmin
          clear hmin
          go_wp2_with (first | (refine wpList_load_mid rfl 66 (.tmp 34) rfl g3 (k * 65) rfl cs _ hr3' Try.underlying66 rfl hsz66 ?_) | (refine wpList_store_row rfl 66 (.tmp 10) (.tmp 35) rfl _ cs.toArray rfl rfl 66 _ (heap_alloc_new _ _) hsz66' hold (all_oneCell_toArray hone) ?_; rw [HQ.out]))
          go_roundw
          case rel =>
            refine ⟨k + 1, by omega, by go_num, hf7.blk hL (not_noBlk _), ?_, hbel.trans (hf7.below hbel.size (fun _ h => h.elim))⟩
            have e : keepTo keep torn S.waits S.sure (k + 1) = keepTo keep torn S.waits S.sure k := by
              simp only [keepTo, hx, keepOne]
              rw [if_pos]
              rw [HMIN.out]; exact HBIT.out
            rw [e]; exact hf7.row hrow (fun _ _ => not_noBlk _)
          case measure => simp [intOf]; omega
        · have hb : bits BinOp.and IntKind.u64 ((keep : Int) / 2 ^ k) 1 = 1 := by rw [hb0, Nat.mod_two_ne_zero.1 hbit]; rfl
          have HBIT := Lib.hid hbit
          clear hbit
          clear hb0
          have HMIN := Lib.hid hmin
          clear hmin
          obtain ⟨cur, hgc, hnc, hccs, htk, _⟩ := row_open hrow
          have hWg := hf7.blk hgc (not_noBlk _)
          have hWL := hf7.blk hL (not_noBlk _)
          have hcW : ((wr.alloc (.cells (Value.int .i64 0 :: bvals (zeros 64)).toArray 66)).setRow Q cs.toArray).cell? ⟨L, 0, none⟩ = some (.slice (some ⟨gL, 0, none⟩) S.n cc) := blk_cell hWL 0 rfl
          have hcQ := blk_cell hWq 0 hc00
          have hWB : Below w.heap.size w ((wr.alloc (.cells (Value.int .i64 0 :: bvals (zeros 64)).toArray 66)).setRow Q cs.toArray) := hbel.trans (hf7.below hbel.size (fun _ h => h.elim))
          have hWr := hf7.row hrow (fun _ _ => not_noBlk _)
          obtain ⟨W, hW⟩ : ∃ W, W = ((wr.alloc (.cells (Value.int .i64 0 :: bvals (zeros 64)).toArray 66)).setRow Q cs.toArray) := ⟨_, rfl⟩
          rw [← hW] at hWg hWL hcW hcQ hWB hWr hWq
          have HW := Lib.hid hW
          clear hW
          by_cases hT : (k : Int) = torn
          · have hTb : ((k : Int) == torn) = true := beq_iff_eq.2 hT
            have HT := Lib.hid hT
            clear hT
            go_wp2_with (first | (refine wpList_load_mid rfl 66 (.tmp 34) rfl g3 (k * 65) rfl cs _ hr3' Try.underlying66 rfl hsz66 ?_) | (refine wpList_store_row rfl 66 (.tmp 10) (.tmp 35) rfl _ cs.toArray rfl rfl 66 _ (heap_alloc_new _ _) hsz66' hold (all_oneCell_toArray hone) ?_; rw [HQ.out, ← HW.out]))
            go_still_tail 11, (by kernel_rfl)
            change wpList _ _ _ _ _ W.drew
            have hWg' : W.drew.heap[gL]? = some (.cells cur 64 (0, 0)) := hWg
            refine wpList_copy_any rfl (.tmp 55) (.tmp 57) 22 22 rfl 5 1 Try.underlying22 size_u8 gL (x.1 * 64) 32 64 ⟨Q, 1, none⟩ 64 64 rfl rfl cur 64 hWg' (bvals (x.2.take 32)) ?k1 ?k2 ?k3 ?k4 ?k5
            case k1 => rw [bvals_length, List.length_take, hx2]; decide
            case k2 => exact src_write HCS.out hWq 32
            case k3 => rw [bvals_length, List.length_take, hccs, hx2]; have := Nat.mul_le_mul_right 64 hnc; omega
            case k4 => exact bvals_one _
            case k5 =>
              go_wp2
              go_roundw
              case rel =>
                have hf8 : Fr (oneBlk gL) W (W.drew.setRow gL (splice cur.toList (x.1 * 64) (bvals (x.2.take 32))).toArray) := ((Fr.drew W).mono (fun _ h => h.elim)).trans (Fr.setRow _ _ _) (fun _ h => .inl h)
                have hLg : L ≠ gL := by omega
                refine ⟨k + 1, by omega, by go_num, hf8.blk hWL hLg, ?_, hWB.trans (hf8.below hWB.size (fun j e => by have e' : j = gL := e; omega))⟩
                have e : keepTo keep torn S.waits S.sure (k + 1) = splice (keepTo keep torn S.waits S.sure k) (x.1 * 64) (x.2.take 32) := by
                  simp only [keepTo, hx, keepOne]
                  rw [HMIN.out, if_neg HBIT.out, if_pos HT.out]
                rw [e, bvals_splice]
                refine row_splice hWr hWg (setRow_heap _ _ _ _ _ _ hWg') ?_
                rw [bvals_length, List.length_take, hx2]; omega
              case measure => simp [intOf]; omega
          · have hTb : ((k : Int) == torn) = false := beq_eq_false_iff_ne.2 hT
            have HT := Lib.hid hT
            clear hT
            go_wp2_with (first | (refine wpList_load_mid rfl 66 (.tmp 34) rfl g3 (k * 65) rfl cs _ hr3' Try.underlying66 rfl hsz66 ?_) | (refine wpList_store_row rfl 66 (.tmp 10) (.tmp 35) rfl _ cs.toArray rfl rfl 66 _ (heap_alloc_new _ _) hsz66' hold (all_oneCell_toArray hone) ?_; rw [HQ.out, ← HW.out]))
            go_still_tail 11, (by kernel_rfl)
            change wpList _ _ _ _ _ W.drew
            have hWg' : W.drew.heap[gL]? = some (.cells cur 64 (0, 0)) := hWg
            refine wpList_copy_any rfl (.tmp 55) (.tmp 57) 22 22 rfl 5 1 Try.underlying22 size_u8 gL (x.1 * 64) 64 64 ⟨Q, 1, none⟩ 64 64 rfl rfl cur 64 hWg' (bvals (x.2.take 64)) ?k1 ?k2 ?k3 ?k4 ?k5
            case k1 => rw [bvals_length, List.length_take, hx2]; decide
            case k2 => exact src_write HCS.out hWq 64
            case k3 => rw [bvals_length, List.length_take, hccs, hx2]; have := Nat.mul_le_mul_right 64 hnc; omega
            case k4 => exact bvals_one _
            case k5 =>
              go_wp2
              go_roundw
              case rel =>
                have hf8 : Fr (oneBlk gL) W (W.drew.setRow gL (splice cur.toList (x.1 * 64) (bvals (x.2.take 64))).toArray) := ((Fr.drew W).mono (fun _ h => h.elim)).trans (Fr.setRow _ _ _) (fun _ h => .inl h)
                have hLg : L ≠ gL := by omega
                refine ⟨k + 1, by omega, by go_num, hf8.blk hWL hLg, ?_, hWB.trans (hf8.below hWB.size (fun j e => by have e' : j = gL := e; omega))⟩
                have e : keepTo keep torn S.waits S.sure (k + 1) = splice (keepTo keep torn S.waits S.sure k) (x.1 * 64) (x.2.take 64) := by
                  simp only [keepTo, hx, keepOne]
                  rw [HMIN.out, if_neg HBIT.out, if_neg HT.out]
                rw [e, bvals_splice]
                refine row_splice hWr hWg (setRow_heap _ _ _ _ _ _ hWg') ?_
                rw [bvals_length, List.length_take, hx2]; omega
              case measure => simp [intOf]; omega
    · obtain rfl : k = S.waits.length := by omega
      have hcL := blk_cell hL 0 rfl
      have HC2 := Lib.hid (cloneP_any gL S.n cc _ wr hm hrow (bvals_one _))
      go_wp2_with (go_at_call 27; refine HC2.out.mono ?_; rintro e w2 ⟨v2, rfl, hown2, hfr2⟩; obtain ⟨a2, cc2, rfl, ha2⟩ := row_slice hown2; obtain ⟨gM, rfl, hgM⟩ := ha2.resolve_left (by omega); have hL2 := hfr2.blk hL (not_noBlk _); have hcL1 := blk_cell hL2 1 rfl; have hfL1 := blk_free hL2 1)
      go_ret2
      have hf6 := Fr.setCell w2 ⟨L, 1, none⟩ (Value.slice (some ⟨gM, 0, none⟩) S.n cc2)
      have e6 : (w2.setCell ⟨L, 1, none⟩ (Value.slice (some ⟨gM, 0, none⟩) S.n cc2)).heap.size = w2.heap.size := by simp
      have hwr : w.heap.size ≤ wr.heap.size := hbel.size
      have hLlt := blk_lt hL
      have hgMlt : gM < w2.heap.size := by obtain ⟨_, h', _⟩ := row_open hown2; exact blk_lt h'
      have hs2 := hfr2.size
      refine ⟨L, rfl, ⟨gL, cc, gM, cc2, Value.slice none 0 0, Dk.fail_ok hd.ok keep torn, blk_set hL2 1 _, ?_, ?_, World.ownsRow_nil _ _ _ _, by omega, ?_, ?_, ?_, fun g e => by simp [Value.ownBlock] at e, fun k hk => hk.2⟩, ?_⟩
      · exact hf6.row (hfr2.row hrow (fun _ _ => not_noBlk _)) (fun g e => by simp [Value.ownBlock] at e; subst e; show ¬ (gL = L); omega)
      · refine hf6.row ?_ (fun g e => by simp [Value.ownBlock] at e; subst e; show ¬ (gM = L); omega)
        exact ⟨hown2.1, hown2.2.imp id (fun ⟨g, cap, cur, e, _, r⟩ => ⟨g, cap, cur, e, Nat.zero_le _, r⟩)⟩
      · exact ⟨by omega, by rw [e6]; omega⟩
      · exact ⟨hgL, by rw [e6]; omega⟩
      · exact ⟨by omega, by rw [e6]; omega⟩
      · have hB6 : Below w.heap.size w (w2.setCell ⟨L, 1, none⟩ (Value.slice (some ⟨gM, 0, none⟩) S.n cc2)) := (hbel.trans (hfr2.below hwr (fun _ h => h.elim))).setCell (p := ⟨L, 1, none⟩) (by show w.heap.size ≤ L; omega) _
        exact Fr.of_below hB6
end Go.Proofs.Ytanlgidliflepaa
