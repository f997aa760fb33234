/- The book of lists: lists of bytes: looked at, kept. Conditions: the lists lie apart. -/
import Derived.Test.YtanlgidliflepaaDoorBkByte2
import Derived.Test.YtanlgidliflepaaDoorRegion
import Derived.Deep.QuietTactic
import Derived.BigQuiet
namespace Go.Proofs.YtanlgidliflepaaDoor
open Go.RowKit

theorem rep_cell {w : World} {B e n g c : Nat} {x : Value} (h : w.ownsRow B e 1 (.slice (some ⟨g, 0, none⟩) n c) n (List.replicate n x)) (q : Nat) (hq : q < n) : w.cell? ⟨g, q, none⟩ = some x := by
  have := h.cells (g := g) rfl q x (by simp [hq])
  rwa [Addr.add_mid, Nat.zero_add] at this

set_option maxRecDepth 20000 in
set_option maxHeartbeats 1000000 in
theorem lookByte_any (B B1 K cnt : Nat) (f : Nat → Value) (hs : List Held) (w : World) (hK : BookAt w K cnt f) (hrow : w.ownsRow B 59 3 (f 1) hs.length (hcells hs))
    (hl : ∀ (i : Nat) (h : i < hs.length), Grown w B 5 B1 repB hs[i] ∧ hs[i].k ≤ 1000000 ∧ hs[i].n ≤ 1000000000) (hn : hs.length ≤ 1000000) :
    Calls Tryd.prog 45 #[.pointer (some ⟨K, 0, none⟩)] w fun e w' => e = .returned (.bool true) ∧ Fr noBlk w w' := by
  obtain ⟨a, c, hf, ha⟩ := row_slice hrow
  have hcK : ∀ wr, Fr noBlk w wr → wr.cell? ⟨K, 1, none⟩ = some (.slice a hs.length c) := fun wr hfr => by rw [← hf]; exact blk_cell (hfr.blk hK (not_noBlk _)) 1 rfl
  rw [hf] at hrow
  have HCK := Lib.hid hcK
  have HL := Lib.hid hl
  have HR := Lib.hid hrow
  clear hf hrow hcK hl
  go_enter Tryd.func45, Tryd.ntmps45
  go_wp2
  go_loopw [3] (fun i wr => ∃ m : Nat, m ≤ hs.length ∧ i = .int .i64 m ∧ Fr noBlk w wr) (fun i _ => hs.length - (intOf i).toNat)
  case atStart => exact ⟨0, by omega, rfl, Fr.refl _ _⟩
  case round =>
    obtain ⟨m, hm, rfl, hfr⟩ := hrel
    have hc := HCK.out wr hfr
    by_cases hlt : m < hs.length
    · obtain ⟨g, rfl, hgB⟩ : ∃ g, a = some ⟨g, 0, none⟩ ∧ B ≤ g := by
        rcases ha with ⟨_, h⟩ | h
        · omega
        · exact h
      obtain ⟨c0, c1, c2⟩ := row_cells3 (hfr.row HR.out (fun _ _ => not_noBlk _)) m hlt
      obtain ⟨⟨hx0, hy0, -⟩, hkm, hnm⟩ := HL.out m hlt
      have hx := hfr.row hx0 (fun _ _ => not_noBlk _)
      have hy := hfr.row hy0 (fun _ _ => not_noBlk _)
      clear hx0 hy0
      generalize hq : hs[m] = h at *
      obtain ⟨v, n, lo, k⟩ := h
      simp only at c0 c1 c2 hx hy hkm hnm
      obtain ⟨va, vc, rfl, hva⟩ := row_slice hx
      obtain ⟨ua, uc, rfl, hua⟩ := row_slice hy
      clear hq
      obtain ⟨gu, rfl⟩ : ∃ g, ua = some ⟨g, 0, none⟩ := by
        rcases hua with ⟨_, h⟩ | ⟨g, h, _⟩
        · omega
        · exact ⟨g, h⟩
      have hf1 := Fr.alloc wr (.cells #[.slice va n vc, .slice (some ⟨gu, 0, none⟩) (n + 40) uc, .int .i64 (k : Nat)] 59)
      have hbox := heap_alloc_new wr (.cells #[.slice va n vc, .slice (some ⟨gu, 0, none⟩) (n + 40) uc, .int .i64 (k : Nat)] 59)
      have hx1 := hf1.row hx (fun _ _ => not_noBlk _)
      have hy1 := hf1.row hy (fun _ _ => not_noBlk _)
      obtain ⟨W1, hW1⟩ : ∃ x, wr.alloc (.cells #[.slice va n vc, .slice (some ⟨gu, 0, none⟩) (n + 40) uc, .int .i64 (k : Nat)] 59) = x := ⟨_, rfl⟩
      rw [hW1] at hf1 hbox hx1 hy1
      have b0 : W1.cell? ⟨wr.heap.size, 0, none⟩ = some (.slice va n vc) := blk_cell hbox 0 rfl
      have b1 : W1.cell? ⟨wr.heap.size, 1, none⟩ = some (.slice (some ⟨gu, 0, none⟩) (n + 40) uc) := blk_cell hbox 1 rfl
      go_wp2
      rw [hW1] at *
      clear hW1
      obtain ⟨Q, hQ⟩ : ∃ x, wr.heap.size = x := ⟨_, rfl⟩
      rw [hQ] at hbox b0 b1 ⊢
      clear hQ
      obtain ⟨wo, rfl⟩ : ∃ wo : World, wo = wr := ⟨_, rfl⟩
      go_loopw [5] (fun i wr => ∃ q : Nat, q ≤ n + 40 ∧ i = .int .i64 q ∧ Fr noBlk W1 wr) (fun i _ => n + 40 - (intOf i).toNat)
      case atStart => exact ⟨0, by omega, rfl, Fr.refl _ _⟩
      case round =>
        obtain ⟨q, hqn, rfl, hfi⟩ := hrel
        have hbi := hfi.blk hbox (not_noBlk _)
        have b0 : wr.cell? ⟨Q, 0, none⟩ = some (.slice va n vc) := blk_cell hbi 0 rfl
        have b1 : wr.cell? ⟨Q, 1, none⟩ = some (.slice (some ⟨gu, 0, none⟩) (n + 40) uc) := blk_cell hbi 1 rfl
        have b2 : wr.cell? ⟨Q, 2, none⟩ = some (.int .i64 (k : Nat)) := blk_cell hbi 2 rfl
        clear hbi hbox
        have hIB := Lib.hid (isByte_any (markB k) k hkm · rfl)
        by_cases hqlt : q < n + 40
        · have y1 := rep_cell (hfi.row hy1 (fun _ _ => not_noBlk _)) q hqlt
          have i1 : (q : Int) < ((n + 40 : Nat) : Int) := by omega
          have i2 : (q : Int) < (n : Int) + 40 := by omega
          by_cases hqv : q < n
          · obtain ⟨gv, rfl⟩ : ∃ g, va = some ⟨g, 0, none⟩ := by
              rcases hva with ⟨_, h⟩ | ⟨g, h, _⟩
              · omega
              · exact ⟨g, h⟩
            have x1 := rep_cell (hfi.row hx1 (fun _ _ => not_noBlk _)) q hqv
            have d1 : decide ((q : Int) < (n : Int)) = true := decide_eq_true (by omega)
            have i3 : (q : Int) < (n : Int) := by omega
            clear hx1 hy1
            go_wp2_with fail
            go_quiet ((go_at_call 75; exact Calls.quiet_of_same (hIB.out _)))
            go_wp2
            refine ⟨⟨q + 1, by omega, by go_num, hfi.trans (Fr.drewN _ _) (fun _ h => h.elim)⟩, ?_⟩
            simp [intOf]; omega
          · have d1 : decide ((q : Int) < (n : Int)) = false := decide_eq_false (by omega)
            clear hx1 hy1
            go_wp2_with fail
            go_quiet ((go_at_call 75; exact Calls.quiet_of_same (hIB.out _)))
            go_wp2
            refine ⟨⟨q + 1, by omega, by go_num, hfi.trans (Fr.drewN _ _) (fun _ h => h.elim)⟩, ?_⟩
            simp [intOf]; omega
        · obtain rfl : q = n + 40 := by omega
          have hF := (hfr.trans hf1 (fun _ h => h.elim)).trans hfi (fun _ h => h.elim)
          clear hx1 hy1
          go_wp2
          refine ⟨⟨m + 1, by omega, by go_num, hF⟩, ?_⟩
          simp [intOf]; omega
    · go_wp2
      go_ret
      exact ⟨rfl, hfr⟩
theorem info_hb : (Tryd.prog.info? 59).map (fun i => (i.zero, i.size, i.bytes)) = some (some (.agg #[.slice none 0 0, .slice none 0 0, .int .i64 0]), 3, 56) := by kernel_rfl
def upd (f : Nat → Value) (i : Nat) (v : Value) : Nat → Value := fun j => if j = i then v else f j
theorem upd_same (f : Nat → Value) (i : Nat) (v : Value) : upd f i v i = v := if_pos rfl
theorem upd_other (f : Nat → Value) {i j : Nat} (v : Value) (h : j ≠ i) : upd f i v j = f j := if_neg h

set_option maxRecDepth 20000 in
set_option maxHeartbeats 1000000 in
theorem keepByte_any (B K cnt : Nat) (f : Nat → Value) (hs : List Held) (w : World) (hK : BookAt w K cnt f) (hB : B ≤ w.heap.size) (hrow : w.ownsRow B 59 3 (f 1) hs.length (hcells hs)) (hcnt : cnt ≤ 999999) (hn : hs.length ≤ 1000000) (a : Option Addr) (n c : Nat) :
    Calls Tryd.prog 20 #[.pointer (some ⟨K, 0, none⟩), .slice a n c] w fun e w' => e = .returned (.tuple #[]) ∧ ∃ v', BookAt w' K (cnt + 1) (upd f 1 v') ∧ w'.ownsRow B 59 3 v' (hs.length + 1) (hcells (hs ++ [⟨.slice a n c, n, .slice none 0 0, cnt + 1⟩])) ∧
      (∀ g, v'.ownBlock = some g → (f 1).ownBlock = some g ∨ w.heap.size ≤ g) ∧ Fr (fun j => j = K ∨ (f 1).ownBlock = some j) w w' := by
  obtain ⟨i0, hi, hz0, hz1, hz2⟩ := info_parts info_hb
  obtain ⟨ra, rc, hf, _⟩ := row_slice hrow
  have c0 : w.cell? ⟨K, 0, none⟩ = some (.int .i64 (cnt : Nat)) := blk_cell hK 0 rfl
  have z0 := blk_free hK 0
  have hK1 : BookAt (w.setCell ⟨K, 0, none⟩ (.int .i64 ((cnt : Int) + 1))) K (cnt + 1) f := by
    have := blk_set hK 0 (.int .i64 ((cnt : Int) + 1))
    exact this
  have hf1 := Fr.setCell w ⟨K, 0, none⟩ (.int .i64 ((cnt : Int) + 1))
  have hrow1 := hf1.row hrow (row_ne hrow hK (by decide))
  go_enter Tryd.func20, Tryd.ntmps20
  go_wp2_with fail
  obtain ⟨w1, hw1⟩ : ∃ x, w.setCell ⟨K, 0, none⟩ (.int .i64 ((cnt : Int) + 1)) = x := ⟨_, rfl⟩
  rw [hw1] at hK1 hf1 hrow1 ⊢
  clear hw1
  have d0 : w1.cell? ⟨K, 0, none⟩ = some (.int .i64 ((cnt : Int) + 1)) := blk_cell hK1 0 rfl
  have d1 : w1.cell? ⟨K, 1, none⟩ = some (.slice ra hs.length rc) := by rw [← hf]; exact blk_cell hK1 1 rfl
  rw [hf] at hrow1
  have HF := Lib.hid hf
  clear hf c0 z0
  refine wp_region_L 15 (fun W => W.cell? ⟨K, 0, none⟩ = some (.int .i64 ((cnt : Int) + 1)) ∧ W.cell? ⟨K, 1, none⟩ = some (.slice ra hs.length rc)) (by kernel_rfl) ?_
  have hS : (fun W : World => W.cell? ⟨K, 0, none⟩ = some (.int .i64 ((cnt : Int) + 1)) ∧ W.cell? ⟨K, 1, none⟩ = some (.slice ra hs.length rc)) w1.drew := ⟨d0, d1⟩
  clear d0 d1
  have tk0 : True := trivial
  refine anyL_take 0 rfl (by kernel_rfl) (by kernel_rfl) (fun _ _ _ h => h) (v := ?vT1) (yields_run rfl ?yT1) hS ?_
  case yT1 => intro WT hWT; (try obtain ⟨hWT1, hWT2⟩ := hWT); go_simp; with_reducible rfl
  go_simp
  refine anyL_take 1 rfl (by kernel_rfl) (by kernel_rfl) (fun _ _ _ h => h) (v := ?vT2) (yields_run rfl ?yT2) hS ?_
  case yT2 => intro WT hWT; (try obtain ⟨hWT1, hWT2⟩ := hWT); go_simp; with_reducible rfl
  go_simp
  refine anyL_take 2 rfl (by kernel_rfl) (by kernel_rfl) (fun _ _ _ h => h) (v := ?vT3) (yields_run rfl ?yT3) hS ?_
  case yT3 => intro WT hWT; (try obtain ⟨hWT1, hWT2⟩ := hWT); go_simp; with_reducible rfl
  go_simp
  refine anyL_take 3 rfl (by kernel_rfl) (by kernel_rfl) (fun _ _ _ h => h) (v := ?vT4) (yields_run rfl ?yT4) hS ?_
  case yT4 => intro WT hWT; (try obtain ⟨hWT1, hWT2⟩ := hWT); go_simp; with_reducible rfl
  go_simp
  refine anyL_take 4 rfl (by kernel_rfl) (by kernel_rfl) (fun _ _ _ h => h) (v := ?vT5) (yields_run rfl ?yT5) hS ?_
  case yT5 => intro WT hWT; (try obtain ⟨hWT1, hWT2⟩ := hWT); go_simp; with_reducible rfl
  go_simp
  refine anyL_take 5 rfl (by kernel_rfl) (by kernel_rfl) (fun _ _ _ h => h) (v := ?vT6) (yields_run rfl ?yT6) hS ?_
  case yT6 => intro WT hWT; (try obtain ⟨hWT1, hWT2⟩ := hWT); go_simp; with_reducible rfl
  go_simp
  refine anyL_take 6 rfl (by kernel_rfl) (by kernel_rfl) (fun _ _ _ h => h) (v := ?vT7) (yields_run rfl ?yT7) hS ?_
  case yT7 => intro WT hWT; (try obtain ⟨hWT1, hWT2⟩ := hWT); go_simp; with_reducible rfl
  go_simp
  refine anyL_take 7 rfl (by kernel_rfl) (by kernel_rfl) (fun _ _ _ h => h) (v := ?vT8) (yields_run rfl ?yT8) hS ?_
  case yT8 => intro WT hWT; (try obtain ⟨hWT1, hWT2⟩ := hWT); go_simp; with_reducible rfl
  go_simp
  refine anyL_take 8 rfl (by kernel_rfl) (by kernel_rfl) (fun _ _ _ h => h) (v := ?vT9) (yields_run rfl ?yT9) hS ?_
  case yT9 => intro WT hWT; (try obtain ⟨hWT1, hWT2⟩ := hWT); go_simp; with_reducible rfl
  go_simp
  refine anyL_take 9 rfl (by kernel_rfl) (by kernel_rfl) (fun _ _ _ h => h) (v := ?vT10) (yields_run rfl ?yT10) hS ?_
  case yT10 => intro WT hWT; (try obtain ⟨hWT1, hWT2⟩ := hWT); go_simp; with_reducible rfl
  go_simp
  refine anyL_take 10 rfl (by kernel_rfl) (by kernel_rfl) (fun _ _ _ h => h) (v := ?vT11) (yields_run rfl ?yT11) hS ?_
  case yT11 => intro WT hWT; (try obtain ⟨hWT1, hWT2⟩ := hWT); go_simp; with_reducible rfl
  go_simp
  have hfA := (Fr.drew w1).trans (Fr.alloc w1.drew (.cells #[.slice a n c, .slice none 0 0, .int .i64 ((cnt : Int) + 1)] 59)) (fun _ h => h.elim)
  refine anyL_one 11 rfl (by kernel_rfl) rfl (wp_run (v := .slice (some ⟨w1.heap.size, 0, none⟩) 1 1) (w' := w1.drew.alloc (.cells #[.slice a n c, .slice none 0 0, .int .i64 ((cnt : Int) + 1)] 59)) (by kernel_rfl) ?_)
  refine ⟨fun _ => ⟨hfA.cell hS.1 (not_noBlk _), hfA.cell hS.2 (not_noBlk _)⟩, ?_⟩
  go_simp
  refine anyL_one 12 rfl (by kernel_rfl) rfl ?_
  refine wp_append_two (.tmp 15) (.tmp 22) 28 rfl B 59 i0 (.agg #[.slice none 0 0, .slice none 0 0, .int .i64 0]) 3 56 Tryd.underlying28 hi hz0 hz1 hz2 rfl (by decide) (.slice ra hs.length rc) hs.length (hcells hs) rfl (hfA.row hrow1 (fun _ _ => not_noBlk _)) ⟨w1.heap.size, 0, none⟩ 1 1 [.slice a n c, .slice none 0 0, .int .i64 ((cnt : Int) + 1)] rfl rfl ?k3 ?k4 ?k5 ?k6 ?k7 (by decide) ?k8
  case k3 =>
    intro j u hu
    have e := cell_of_row (w1.drew.alloc (.cells #[.slice a n c, .slice none 0 0, .int .i64 ((cnt : Int) + 1)] 59)) w1.heap.size (0 + j) #[.slice a n c, .slice none 0 0, .int .i64 ((cnt : Int) + 1)] 59 (0, 0) (heap_alloc_new w1.drew _)
    rw [Addr.add_mid]
    exact e.trans (by simpa using hu)
  case k4 =>
    intro u hu
    simp only [List.mem_cons, List.not_mem_nil, or_false] at hu
    rcases hu with rfl | rfl | rfl <;> rfl
  case k5 => simp only [maxLen]; omega
  case k6 => omega
  case k7 => exact Nat.le_trans hB (Nat.le_trans hf1.size hfA.size)
  case k8 =>
    intro v' w5 hown5 hg5 hc5
    obtain ⟨va, vc, rfl, _⟩ := row_slice hown5
    have hrA := hfA.row hrow1 (fun _ _ => not_noBlk _)
    have hKA := hfA.blk hK1 (not_noBlk _)
    have hf5 := Fr.grown hg5
    have hK5 := hf5.blk hKA (fun e => row_ne hrA hKA (by decide) K e rfl)
    have hKA2 : BookAt w5 K (cnt + 1) f := hK5
    have s0 : w5.cell? ⟨K, 0, none⟩ = some (.int .i64 ((cnt : Int) + 1)) := blk_cell hKA2 0 rfl
    have s1 : w5.cell? ⟨K, 1, none⟩ = some (.slice ra hs.length rc) := by rw [← HF.out]; exact blk_cell hKA2 1 rfl
    refine ⟨fun _ => ⟨s0, s1⟩, ?_⟩
    go_simp
    refine anyL_one 13 rfl (by kernel_rfl) rfl (wp_run (v := .pointer (some ⟨K, 0, none⟩)) (w' := w5) (by kernel_rfl) ?_)
    refine ⟨fun _ => ⟨s0, s1⟩, ?_⟩
    go_simp
    refine anyL_one 14 rfl (by kernel_rfl) rfl (wp_run (v := .pointer (some ⟨K, 1, none⟩)) (w' := w5) (by kernel_rfl) ?_)
    refine ⟨fun _ => ⟨s0, s1⟩, ?_⟩
    go_simp
    refine anyL_one 15 rfl (by kernel_rfl) rfl ?_
    have hfz := blk_free hKA2 1
    go_simp
    refine anyL_done (by kernel_rfl) ?_ _
    have hset := blk_set hKA2 1 (.slice va (hs.length + 1) vc)
    have hfs := Fr.setCell w5 ⟨K, 1, none⟩ (.slice va (hs.length + 1) vc)
    have hKne := row_ne hown5 hK5 (by decide)
    have hown6 := hfs.row hown5 hKne
    have hF : Fr (fun j => j = K ∨ (f 1).ownBlock = some j) w (w5.setCell ⟨K, 1, none⟩ (.slice va (hs.length + 1) vc)) :=
      (((hf1.mono (fun j e => .inl (.inl e))).trans hfA (fun _ h => h.elim)).trans hf5 (fun j e => .inl (.inr (by rw [HF.out]; exact e)))).trans hfs (fun j e => .inl (.inl e))
    have hwh : ∀ g, (Value.slice va (hs.length + 1) vc).ownBlock = some g → (f 1).ownBlock = some g ∨ w.heap.size ≤ g := by
      intro g hg
      rcases hc5 with ⟨gg, cap, e1, e2⟩ | ⟨_, e2⟩
      · left; rw [HF.out, e1]; rw [e2] at hg; exact hg
      · rw [e2] at hg; simp at hg; right
        have h1 := hf1.size
        have h2 := hfA.size
        simp at h1 h2; omega
    have HA := Lib.hid hset
    have HB := Lib.hid hown6
    have HC := Lib.hid hF
    have HD := Lib.hid hwh
    clear hset hown6 hF hwh hfs hK5 hKA2 hKA hrA hf5 hg5 hc5 hown5 s0 s1 hfz
    go_end0
    refine ⟨rfl, _, ?_, ?_, HD.out, HC.out⟩
    · exact HA.out
    · rw [hcells_append]; exact HB.out
end Go.Proofs.YtanlgidliflepaaDoor
