/- The book of lists: lists of bytes: kept, written over, grown, looked at. Conditions: the lists lie apart. -/
import Derived.Test.YtanlgidliflepaaDoorBkDef
namespace Go.Proofs.YtanlgidliflepaaDoor
open Go.RowKit

/-- The mark of a number, as a byte. -/
def markB (k : Nat) : Int := ((1 + k % 250 : Nat) : Int)
def repB (n k : Nat) : List Value := List.replicate n (.int .u8 (markB k))
theorem repB_length (n k : Nat) : (repB n k).length = n := by simp [repB]
theorem repB_one (n k : Nat) : ∀ v ∈ repB n k, v.oneCell' = true := by
  intro v hv; rw [(List.mem_replicate.1 hv).2]; rfl

theorem markByte_any (k : Nat) (hk : k ≤ 1000000) (w : World) : Calls Tryd.prog 63 #[.int .i64 (k : Nat)] w fun e w' => e = .returned (.int .u8 (markB k)) ∧ w' = w := by
  go_enter Tryd.func63, Tryd.ntmps63
  go_wp2
  go_ret
  refine ⟨?_, rfl⟩
  show Ending.returned (Value.int .u8 _) = _
  unfold markB
  congr 2
theorem isByte_any (x : Int) (k : Nat) (hk : k ≤ 1000000) (w : World) (hx : x = markB k) : Calls Tryd.prog 75 #[.int .u8 x, .int .i64 (k : Nat)] w fun e w' => e = .returned (.bool true) ∧ w' = w := by
  have hb : (x == 1 + (k : Int) % 250) = true := by rw [beq_iff_eq, hx]; unfold markB; omega
  clear hx
  go_enter Tryd.func75, Tryd.ntmps75
  go_wp2
  go_ret
  refine ⟨?_, rfl⟩
  show Ending.returned (.bool _) = _
  congr 2

theorem set_rep {l : List Value} {x : Value} {n q : Nat} (hl : l.length = n) (hq : q < n) : (List.replicate q x ++ l.drop q).set q x = List.replicate (q + 1) x ++ l.drop (q + 1) := by
  apply List.ext_getElem?
  intro i
  rw [List.getElem?_set]
  simp only [List.length_append, List.length_replicate, List.length_drop]
  by_cases h1 : q = i
  · subst h1
    rw [if_pos rfl, if_pos (by omega), List.getElem?_append_left (by simp)]
    simp
  · rw [if_neg h1]
    by_cases h2 : i < q
    · rw [List.getElem?_append_left (by simpa using h2), List.getElem?_append_left (by simp; omega)]
      simp [h2, show i < q + 1 from by omega]
    · rw [List.getElem?_append_right (by simp; omega), List.getElem?_append_right (by simp; omega)]
      simp only [List.length_replicate, List.getElem?_drop]
      congr 1; omega
/-- One cell of an owned row is written. -/
theorem row_set1 {w : World} {B e n g c : Nat} {xs : List Value} (h : w.ownsRow B e 1 (.slice (some ⟨g, 0, none⟩) n c) n xs) (q : Nat) (hq : q < n) (x : Value) : (w.setCell ⟨g, q, none⟩ x).ownsRow B e 1 (.slice (some ⟨g, 0, none⟩) n c) n (xs.set q x) := by
  obtain ⟨cur, hg, hnc, hsz, htk, _⟩ := row_open h
  have hset := blk_set hg q x
  have hl := h.1
  have e1 : cur.setIfInBounds q x = (splice cur.toList q [x]).toArray := by
    apply Array.ext'
    rw [Array.toList_setIfInBounds, List.toList_toArray]
    apply List.ext_getElem?
    intro i
    rw [List.getElem?_set, splice_get _ _ _ (by simp; omega)]
    simp only [List.length_singleton, Array.length_toList]
    by_cases h1 : q = i
    · subst h1; rw [if_pos rfl, if_pos (by omega), if_neg (by omega), if_pos (by omega)]; simp
    · rw [if_neg h1]
      by_cases h2 : i < q
      · rw [if_pos h2]
      · rw [if_neg h2, if_neg (by omega)]
  have e2 : xs.set q x = splice xs q [x] := by
    apply List.ext_getElem?
    intro i
    rw [List.getElem?_set, splice_get _ _ _ (by simp; omega)]
    simp only [List.length_singleton]
    by_cases h1 : q = i
    · subst h1; rw [if_pos rfl, if_pos (by omega), if_neg (by omega), if_pos (by omega)]; simp
    · rw [if_neg h1]
      by_cases h2 : i < q
      · rw [if_pos h2]
      · rw [if_neg h2, if_neg (by omega)]
  rw [e1] at hset
  rw [e2]
  exact row_splice h hg hset (by simp; omega)

set_option maxRecDepth 20000 in
set_option maxHeartbeats 1000000 in
theorem fillByte_any (B K cnt : Nat) (f : Nat → Value) (hs : List Held) (w : World) (hK : BookAt w K cnt f) (hrow : w.ownsRow B 59 3 (f 1) hs.length (hcells hs)) (hl : Lists w B 5 1 hs) (hap : Apart hs)
    (hlo : ∀ h ∈ hs, ∃ a n c, h.long = .slice a n c) (hn : hs.length ≤ 1000000) (hk : ∀ h ∈ hs, h.k ≤ 1000000 ∧ h.n ≤ 140737488355328) :
    Calls Tryd.prog 21 #[.pointer (some ⟨K, 0, none⟩)] w fun e w' => e = .returned (.tuple #[]) ∧ (∀ (i : Nat) (h : i < hs.length), w'.ownsRow B 5 1 hs[i].v hs[i].n (repB hs[i].n hs[i].k)) ∧ Fr (lblk hs) w w' := by
  obtain ⟨a, c, hf, ha⟩ := row_slice hrow
  have hKn := hl.not hK (by decide)
  have hRn : ∀ g, (f 1).ownBlock = some g → ¬ lblk hs g := fun g hg hgl => by
    rcases hrow.2 with ⟨e, _⟩ | ⟨g', cap', cur', e, _, hgg, _⟩
    · rw [e] at hg; simp [Value.ownBlock] at hg
    · rw [e] at hg; simp [Value.ownBlock] at hg; subst hg
      exact hl.not hgg (by decide) hgl
  have hcK : ∀ wr, Fr (lblk hs) w wr → wr.cell? ⟨K, 1, none⟩ = some (.slice a hs.length c) := fun wr hfr => by rw [← hf]; exact blk_cell (hfr.blk hK hKn) 1 rfl
  have hrw : ∀ wr, Fr (lblk hs) w wr → wr.ownsRow B 59 3 (.slice a hs.length c) hs.length (hcells hs) := fun wr hfr => by rw [← hf]; exact hfr.row hrow hRn
  have HCK := Lib.hid hcK
  have HRW := Lib.hid hrw
  have HLO := Lib.hid hlo
  have HKK := Lib.hid hk
  have HAP := Lib.hid hap
  have HL := Lib.hid hl
  clear hf hrow hRn hcK hrw hlo hk hap hl
  go_enter Tryd.func21, Tryd.ntmps21
  go_wp2
  go_loopw [2] (fun i wr => ∃ m : Nat, m ≤ hs.length ∧ i = .int .i64 m ∧ (∀ (j : Nat) (h : j < hs.length), ∃ xs, wr.ownsRow B 5 1 hs[j].v hs[j].n xs ∧ (j < m → xs = repB hs[j].n hs[j].k)) ∧ Fr (lblk hs) w wr) (fun i _ => hs.length - (intOf i).toNat)
  case atStart => exact ⟨0, by omega, rfl, fun j h => by obtain ⟨xs, hx⟩ := HL.out j h; exact ⟨xs, hx, fun h => absurd h (by omega)⟩, Fr.refl _ _⟩
  case round =>
    obtain ⟨m, hm, rfl, hdone, hfr⟩ := hrel
    have hc := HCK.out wr hfr
    by_cases hlt : m < hs.length
    · have hr := HRW.out wr hfr
      obtain ⟨g, rfl, hgB⟩ : ∃ g, a = some ⟨g, 0, none⟩ ∧ B ≤ g := by
        rcases ha with ⟨_, h⟩ | h
        · omega
        · exact h
      obtain ⟨c0, c1, c2⟩ := row_cells3 hr m hlt
      obtain ⟨xs, hx, _⟩ := hdone m hlt
      obtain ⟨la, ln, lc, elo⟩ := HLO.out _ (List.getElem_mem hlt)
      obtain ⟨hkm, hnm⟩ := HKK.out _ (List.getElem_mem hlt)
      have hdis := fun j hj => HAP.out m j hlt hj
      have hlb := fun g hg => lblk_of hlt (g := g) hg
      have HD := Lib.hid hdone
      clear hdone
      generalize hq : hs[m] = h at *
      obtain ⟨v, n, lo, k⟩ := h
      simp only at c0 c1 c2 hx elo hkm hnm hdis hlb
      subst elo
      obtain ⟨va, vc, rfl, hva⟩ := row_slice hx
      have HQ := Lib.hid hq
      have HDIS := Lib.hid hdis
      have HLB := Lib.hid hlb
      clear hq hdis hlb
      have hf1 := Fr.alloc wr (.cells #[.slice va n vc, .slice la ln lc, .int .i64 (k : Nat)] 59)
      have hbox := heap_alloc_new wr (.cells #[.slice va n vc, .slice la ln lc, .int .i64 (k : Nat)] 59)
      have hx1 := hf1.row hx (fun _ _ => not_noBlk _)
      go_wp2
      obtain ⟨W1, hW1⟩ : ∃ x, wr.alloc (.cells #[.slice va n vc, .slice la ln lc, .int .i64 (k : Nat)] 59) = x := ⟨_, rfl⟩
      rw [hW1] at hf1 hbox hx1 ⊢
      clear hW1
      obtain ⟨Q, hQ⟩ : ∃ x, wr.heap.size = x := ⟨_, rfl⟩
      rw [hQ] at hbox ⊢
      clear hQ
      have hQn := row_ne hx1 hbox (by decide)
      obtain ⟨wo, rfl⟩ : ∃ wo : World, wo = wr := ⟨_, rfl⟩
      have hxl := hx1.1
      rw [Nat.mul_one] at hxl
      have HXL := Lib.hid hxl
      go_loopw [4] (fun i wi => ∃ q : Nat, q ≤ n ∧ i = .int .i64 q ∧ wi.ownsRow B 5 1 (.slice va n vc) n (List.replicate q (.int .u8 (markB k)) ++ xs.drop q) ∧ Fr (fun j => (Value.slice va n vc).ownBlock = some j) W1 wi) (fun i _ => n - (intOf i).toNat)
      case atStart => exact ⟨0, by omega, rfl, by simpa using hx1, Fr.refl _ _⟩
      case round =>
        obtain ⟨q, hqn, rfl, hxi, hfi⟩ := hrel
        have hbi := hfi.blk hbox (fun e => hQn Q e rfl)
        have b0 : wr.cell? ⟨Q, 0, none⟩ = some (.slice va n vc) := blk_cell hbi 0 rfl
        have b2 : wr.cell? ⟨Q, 2, none⟩ = some (.int .i64 (k : Nat)) := blk_cell hbi 2 rfl
        by_cases hqlt : q < n
        · obtain ⟨gv, rfl, hgv⟩ : ∃ g, va = some ⟨g, 0, none⟩ ∧ B ≤ g := by
            rcases hva with ⟨_, h⟩ | h
            · omega
            · exact h
          obtain ⟨cur, hcur, hcn, hcs, -, -⟩ := row_open hxi
          have d0 : ∃ vv, wr.cell? ⟨gv, q, none⟩ = some vv := ⟨_, blk_cell hcur q (Array.getElem?_eq_getElem (by omega))⟩
          obtain ⟨vv, d0⟩ := d0
          have d1 := blk_free hcur q
          clear hcs hcur hxl hbi hbox
          have hset := row_set1 hxi q hqlt (.int .u8 (markB k))
          rw [set_rep HXL.out hqlt] at hset
          have hfs := Fr.setCell wr ⟨gv, q, none⟩ (.int .u8 (markB k))
          have HS := Lib.hid hset
          clear hset
          go_wp2_with fail
          refine wp_region_still_tail 7 (by kernel_rfl) (by kernel_rfl) ?_
          simp only [List.take_succ_cons, List.take_zero, List.drop_succ_cons, List.drop_zero]
          still_step
          still_step
          still_step
          still_step
          still_step
          still_call (markByte_any k hkm _)
          still_step
          refine wpStill_nil ?_
          go_wp2
          refine ⟨⟨q + 1, by omega, by go_num, HS.out, (hfi.trans hfs (fun j e => .inl (by rw [show j = gv from e]; rfl))).trans (Fr.drew _) (fun _ h => h.elim)⟩, ?_⟩
          simp [intOf]; omega
        · obtain rfl : q = n := by omega
          have hxe : wr.ownsRow B 5 1 (.slice va q vc) q (repB q k) := by
            rw [List.drop_of_length_le (by omega), List.append_nil] at hxi
            exact hxi
          have hF : Fr (lblk hs) w wr := (hfr.trans hf1 (fun _ h => h.elim)).trans hfi (fun j e => .inl (HLB.out j e))
          have hall : ∀ (j : Nat) (h : j < hs.length), ∃ xs, wr.ownsRow B 5 1 hs[j].v hs[j].n xs ∧ (j < m + 1 → xs = repB hs[j].n hs[j].k) := by
            intro j hj
            by_cases e : j = m
            · subst e
              rw [HQ.out]
              exact ⟨_, hxe, fun _ => rfl⟩
            · obtain ⟨ys, hy, hy2⟩ := HD.out j hj
              refine ⟨ys, hfi.row (hf1.row hy (fun _ _ => not_noBlk _)) (fun g' hg' e' => HDIS.out j hj (fun h => e h.symm) g' e' hg'), fun h => hy2 (by omega)⟩
          have HA := Lib.hid hall
          clear hall hxi hxe hxl
          go_wp2
          refine ⟨⟨m + 1, by omega, by go_num, HA.out, hF⟩, ?_⟩
          simp [intOf]; omega
    · go_wp2
      go_end0
      exact ⟨rfl, fun i h => by obtain ⟨xs, hx, e⟩ := hdone i h; exact e (by omega) ▸ hx, hfr⟩
end Go.Proofs.YtanlgidliflepaaDoor
