/- The book of lists: lists of bytes, grown. Conditions: the lists lie apart. -/
import Derived.Test.YtanlgidliflepaaDoorBkByte
import Derived.Test.YtanlgidliflepaaDoorBkAppend
import Derived.Test.YtanlgidliflepaaDoorCloneB
namespace Go.Proofs.YtanlgidliflepaaDoor
open Go.RowKit

/-- One cell of an owned row is written. -/
theorem row_setC {w : World} {B e size n g c : Nat} {xs : List Value} (h : w.ownsRow B e size (.slice (some ⟨g, 0, none⟩) n c) n xs) (q : Nat) (hq : q < n * size) (x : Value) : (w.setCell ⟨g, q, none⟩ x).ownsRow B e size (.slice (some ⟨g, 0, none⟩) n c) n (xs.set q x) := by
  obtain ⟨cur, hg, hnc, hsz, htk, _⟩ := row_open h
  have hle : n * size ≤ c * size := Nat.mul_le_mul_right _ hnc
  have hset := blk_set hg q x
  have hl := h.1
  have e0 : ∀ l : List Value, q + 1 ≤ l.length → l.set q x = splice l q [x] := by
    intro l hq
    apply List.ext_getElem?
    intro i
    rw [List.getElem?_set, splice_get _ _ _ (by simpa using hq)]
    simp only [List.length_singleton]
    by_cases h1 : q = i
    · subst h1; rw [if_pos rfl, if_pos (by omega), if_neg (by omega), if_pos (by omega)]; simp
    · rw [if_neg h1]
      by_cases h2 : i < q
      · rw [if_pos h2]
      · rw [if_neg h2, if_neg (by omega)]
  have e1 : cur.setIfInBounds q x = (splice cur.toList q [x]).toArray := by
    apply Array.ext'
    rw [Array.toList_setIfInBounds, List.toList_toArray]
    exact e0 _ (by rw [Array.length_toList]; omega)
  rw [e1] at hset
  rw [e0 xs (by omega)]
  exact row_splice h hg hset (by simp; omega)
theorem hcells_set : ∀ (hs : List Held) (m : Nat) (h : m < hs.length) (lv : Value), hcells (hs.set m ⟨hs[m].v, hs[m].n, lv, hs[m].k⟩) = (hcells hs).set (m * 3 + 1) lv
  | [], m, h, _ => by simp at h
  | x :: hs, 0, _, lv => by simp [hcells]
  | x :: hs, m + 1, h, lv => by
    have ih := hcells_set hs m (by simpa using h) lv
    have e : ∀ y (l : List Held), hcells (y :: l) = [y.v, y.long, .int .i64 (y.k : Nat)] ++ hcells l := fun y l => by simp [hcells]
    simp only [List.set_cons_succ, List.getElem_cons_succ, e]
    rw [ih, List.set_append_right _ _ (by simp; omega)]
    congr 2; simp; omega

/-- What stands behind grow: each list reads as it did, and so does the longer one. -/
structure Grown (w : World) (B e B1 : Nat) (rep : Nat → Nat → List Value) (h : Held) : Prop where
  list : w.ownsRow B e 1 h.v h.n (rep h.n h.k)
  long : w.ownsRow B e 1 h.long (h.n + 40) (rep (h.n + 40) h.k)
  where_ : ∀ g, h.long.ownBlock = some g → h.v.ownBlock = some g ∨ B1 ≤ g
theorem Grown.fr {w w' : World} {B e B1 : Nat} {rep : Nat → Nat → List Value} {h : Held} {fp : Nat → Prop} (hg : Grown w B e B1 rep h) (hf : Fr fp w w') (h1 : ∀ g, h.v.ownBlock = some g → ¬ fp g) (h2 : ∀ g, B1 ≤ g → g < w.heap.size → ¬ fp g) : Grown w' B e B1 rep h :=
  ⟨hf.row hg.list h1, hf.row hg.long (fun g e => (hg.where_ g e).elim (h1 g) (fun h => h2 g h (hg.long.lt g e).2)), hg.where_⟩

theorem repB_succ (n k : Nat) : repB n k ++ [.int .u8 (markB k)] = repB (n + 1) k := by unfold repB; rw [List.replicate_succ']
theorem repB_take (n m k : Nat) (h : n ≤ m) : (repB m k).take n = repB n k := by unfold repB; rw [List.take_replicate, Nat.min_eq_left h]

set_option maxRecDepth 20000 in
set_option maxHeartbeats 1000000 in
theorem growByte_any (B K cnt : Nat) (f : Nat → Value) (hs : List Held) (w : World) (hK : BookAt w K cnt f) (hB : B ≤ w.heap.size) (hrow : w.ownsRow B 59 3 (f 1) hs.length (hcells hs)) (hl : ∀ (i : Nat) (h : i < hs.length), w.ownsRow B 5 1 hs[i].v hs[i].n (repB hs[i].n hs[i].k)) (hap : Apart hs)
    (hlo : ∀ h ∈ hs, ∃ a n c, h.long = .slice a n c) (hn : hs.length ≤ 1000000) (hk : ∀ h ∈ hs, h.k ≤ 1000000 ∧ h.n ≤ 1000000000) :
    Calls Tryd.prog 33 #[.pointer (some ⟨K, 0, none⟩)] w fun e w' => e = .returned (.tuple #[]) ∧ ∃ hs' : List Held, hs'.length = hs.length ∧ BookAt w' K cnt f ∧ w'.ownsRow B 59 3 (f 1) hs.length (hcells hs') ∧
      (∀ (i : Nat) (h : i < hs'.length), Grown w' B 5 w.heap.size repB hs'[i] ∧ hs'[i].k ≤ 1000000 ∧ hs'[i].n ≤ 1000000000) ∧ Fr (fun j => lblk hs j ∨ (f 1).ownBlock = some j) w w' := by
  obtain ⟨i0, hi, hz0, hz1, hz2⟩ := info_parts info_u8
  obtain ⟨a, c, hf, ha⟩ := row_slice hrow
  have hL0 : Lists w B 5 1 hs := fun i h => ⟨_, hl i h⟩
  have hKn : ∀ j, lblk hs j ∨ (f 1).ownBlock = some j → j ≠ K := by
    rintro j (h | h) rfl
    · exact hL0.not hK (by decide) h
    · exact row_ne hrow hK (by decide) j h rfl
  have hcK : ∀ wr, Fr (fun j => lblk hs j ∨ (f 1).ownBlock = some j) w wr → wr.cell? ⟨K, 1, none⟩ = some (.slice a hs.length c) ∧ BookAt wr K cnt f := fun wr hfr => by
    have := hfr.blk hK (fun h => hKn K h rfl)
    exact ⟨by rw [← hf]; exact blk_cell this 1 rfl, this⟩
  rw [hf] at hrow hcK hKn
  rw [hf]
  have HCK := Lib.hid hcK
  have HLO := Lib.hid hlo
  have HKK := Lib.hid hk
  have HAP := Lib.hid hap
  have HL := Lib.hid hl
  have HKN := Lib.hid hKn
  have hB1 : ∃ x, w.heap.size = x := ⟨_, rfl⟩
  obtain ⟨B1, hB1⟩ := hB1
  have hB' : B ≤ B1 := by omega
  have hlt1 : ∀ g, lblk hs g → g < B1 := fun g h => by rw [← hB1]; exact (hL0.lt h).2
  have HLT := Lib.hid hlt1
  have HB1 := Lib.hid hB1
  rw [hB1]
  have hst : ∃ hs' : List Held, hs'.length = hs.length ∧ w.ownsRow B 59 3 (.slice a hs.length c) hs.length (hcells hs') ∧ ∀ (j : Nat) (h1 : j < hs'.length) (h2 : j < hs.length), hs'[j].v = hs[j].v ∧ hs'[j].n = hs[j].n ∧ hs'[j].k = hs[j].k ∧ (j < 0 → Grown w B 5 B1 repB hs'[j]) ∧ (0 ≤ j → hs'[j] = hs[j] ∧ w.ownsRow B 5 1 hs[j].v hs[j].n (repB hs[j].n hs[j].k)) :=
    ⟨hs, rfl, hrow, fun j h1 h2 => ⟨rfl, rfl, rfl, fun h => absurd h (by omega), fun _ => ⟨rfl, hl j h2⟩⟩⟩
  have HST := Lib.hid hst
  clear hf hrow hcK hlo hk hap hl hL0 hKn hlt1 hB1 hst
  go_enter Tryd.func33, Tryd.ntmps33
  go_wp2
  go_loopw [2] (fun i wr => ∃ m : Nat, m ≤ hs.length ∧ i = .int .i64 m ∧ (∃ hs' : List Held, hs'.length = hs.length ∧ wr.ownsRow B 59 3 (.slice a hs.length c) hs.length (hcells hs') ∧ ∀ (j : Nat) (h1 : j < hs'.length) (h2 : j < hs.length), hs'[j].v = hs[j].v ∧ hs'[j].n = hs[j].n ∧ hs'[j].k = hs[j].k ∧ (j < m → Grown wr B 5 B1 repB hs'[j]) ∧ (m ≤ j → hs'[j] = hs[j] ∧ wr.ownsRow B 5 1 hs[j].v hs[j].n (repB hs[j].n hs[j].k))) ∧ Fr (fun j => lblk hs j ∨ (Value.slice a hs.length c).ownBlock = some j) w wr) (fun i _ => hs.length - (intOf i).toNat)
  case atStart => exact ⟨0, by omega, rfl, HST.out, Fr.refl _ _⟩
  case round =>
    obtain ⟨m, hm, rfl, ⟨hs', hlen, hr, hst⟩, hfr⟩ := hrel
    obtain ⟨hc, hKr⟩ := HCK.out wr hfr
    have HLEN := Lib.hid hlen
    have HS := Lib.hid hst
    clear hst
    by_cases hlt : m < hs.length
    · obtain ⟨g, rfl, hgB⟩ : ∃ g, a = some ⟨g, 0, none⟩ ∧ B ≤ g := by
        rcases ha with ⟨_, h⟩ | h
        · omega
        · exact h
      have hlt' : m < hs'.length := by omega
      have hr' := hr
      rw [← hlen] at hr'
      obtain ⟨c0, c1, c2⟩ := row_cells3 hr' m hlt'
      obtain ⟨_, _, _, _, hmm⟩ := HS.out m hlt' hlt
      obtain ⟨hme, hx⟩ := hmm (Nat.le_refl _)
      rw [hme] at c0 c1 c2
      have HME := Lib.hid hme
      clear hr' hlen hme hmm
      obtain ⟨la, ln, lc, elo⟩ := HLO.out _ (List.getElem_mem hlt)
      obtain ⟨hkm, hnm⟩ := HKK.out _ (List.getElem_mem hlt)
      have hdis := fun j hj => HAP.out m j hlt hj
      have hlb := fun g hg => lblk_of hlt (g := g) hg
      generalize hq : hs[m] = h at *
      obtain ⟨v, n, lo, k⟩ := h
      simp only at c0 c1 c2 hx elo hkm hnm hdis hlb
      subst elo
      obtain ⟨va, vc, rfl, hva⟩ := row_slice hx
      have HQ := Lib.hid hq
      have HDIS := Lib.hid hdis
      have HLB := Lib.hid hlb
      clear hq hdis hlb
      have hf1 := Fr.alloc wr (.cells #[.slice va n vc, .slice la ln lc, .int .i64 (k : Nat)] 59)
      have hbox := heap_alloc_new wr (.cells #[.slice va n vc, .slice la ln lc, .int .i64 (k : Nat)] 59)
      have hx1 := hf1.row hx (fun _ _ => not_noBlk _)
      go_wp2
      obtain ⟨W1, hW1⟩ : ∃ x, wr.alloc (.cells #[.slice va n vc, .slice la ln lc, .int .i64 (k : Nat)] 59) = x := ⟨_, rfl⟩
      rw [hW1] at hf1 hbox hx1 ⊢
      clear hW1
      obtain ⟨Q, hQ⟩ : ∃ x, wr.heap.size = x := ⟨_, rfl⟩
      rw [hQ] at hbox ⊢
      clear hQ
      have hQn := row_ne hx1 hbox (by decide)
      have hBW : B1 ≤ W1.heap.size := by have := hfr.size; have := HB1.out; have := hf1.size; omega
      obtain ⟨wo, rfl⟩ : ∃ wo : World, wo = wr := ⟨_, rfl⟩
      go_loopw [4, 5] (fun lv i wr => ∃ q : Nat, q ≤ 40 ∧ i = .int .i64 q ∧ wr.ownsRow B 5 1 lv (n + q) (repB (n + q) k) ∧ wr.ownsRow B 5 1 (.slice va n vc) n (repB n k) ∧ (∀ g, lv.ownBlock = some g → (Value.slice va n vc).ownBlock = some g ∨ W1.heap.size ≤ g) ∧ Fr (fun j => (Value.slice va n vc).ownBlock = some j) W1 wr) (fun _ i _ => 40 - (intOf i).toNat)
      case atStart => exact ⟨0, by omega, rfl, hx1, hx1, fun g h => .inl h, Fr.refl _ _⟩
      case round =>
        obtain ⟨q, hqn, rfl, hlv, hxi, hwh, hfi⟩ := hrel
        have hbi := hfi.blk hbox (fun e => hQn Q e rfl)
        have b2 : wr.cell? ⟨Q, 2, none⟩ = some (.int .i64 (k : Nat)) := blk_cell hbi 2 rfl
        by_cases hqlt : q < 40
        · have hnew := heap_alloc_new wr (.cells #[.int .u8 (markB k)] 5)
          have hfa := Fr.alloc wr (.cells #[.int .u8 (markB k)] 5)
          have hsz := hfi.size
          clear hbi hbox
          go_wp2_with (first | (go_at_call 63; refine (markByte_any k hkm _).mono ?_; rintro e w' ⟨rfl, hw⟩; obtain rfl := hw.symm) | (at_builtin; refine wpList_append_two rfl (.tmp 28) (.tmp 32) 22 rfl B 5 i0 (.int .u8 0) 1 1 Tryd.underlying22 hi hz0 hz1 hz2 rfl (by decide) _ (n + q) (repB (n + q) k) rfl (hfa.row hlv (fun _ _ => not_noBlk _)) ⟨wr.heap.size, 0, none⟩ 1 1 [.int .u8 (markB k)] rfl rfl ?c1 ?c2 ?c3 ?c4 ?c5 (by decide) ?_))
          case c1 =>
            intro j u hj
            have : j = 0 := by
              have := (List.getElem?_eq_some_iff.1 hj).1
              simpa using this
            subst this
            simp at hj
            subst hj
            exact blk_cell hnew 0 rfl
          case c2 => intro u hu; simp at hu; subst hu; rfl
          case c3 => simp only [maxLen]; omega
          case c4 => omega
          case c5 => have := hfa.size; omega
          intro lv' w2 hown2 hg2 hc2
          have hkeep := append_keeps (hfa.row hxi (fun _ _ => not_noBlk _)) (hfa.row hlv (fun _ _ => not_noBlk _)) (Nat.le_add_right n q) (repB_take n (n + q) k (Nat.le_add_right n q)) hown2 hg2 (hc2.imp id (·.1))
          rw [repB_succ] at hown2
          have hwh2 : ∀ g, lv'.ownBlock = some g → (Value.slice va n vc).ownBlock = some g ∨ W1.heap.size ≤ g := by
            intro g' hg'
            rcases hc2 with ⟨gg, cap, e1, e2⟩ | ⟨_, e2⟩
            · exact hwh g' (by rw [e1]; rw [e2] at hg'; exact hg')
            · rw [e2] at hg'; simp at hg'; right; omega
          have hF2 : Fr (fun j => (Value.slice va n vc).ownBlock = some j) W1 w2 := (hfi.trans hfa (fun _ h => h.elim)).trans (Fr.grown hg2) (fun j e => hwh j e)
          have HA := Lib.hid hown2
          have HB := Lib.hid hkeep
          have HC := Lib.hid hwh2
          have HD := Lib.hid hF2
          clear hown2 hkeep hwh2 hF2 hg2 hc2 hlv hxi hwh hfi b2 hnew hfa
          go_wp2
          refine ⟨⟨q + 1, by omega, by go_num, HA.out, HB.out, HC.out, HD.out⟩, ?_⟩
          simp [intOf]; omega
        · obtain rfl : q = 40 := by omega
          obtain ⟨ua, uc, rfl, _⟩ := row_slice hlv
          have hF1 : Fr (fun j => (Value.slice va n vc).ownBlock = some j) wo wr := (hf1.mono (fun _ h => h.elim)).trans hfi (fun _ h => .inl h)
          have hF : Fr (fun j => lblk hs j ∨ (Value.slice (some ⟨g, 0, none⟩) hs.length c).ownBlock = some j) w wr := hfr.trans hF1 (fun j e => .inl (.inl (HLB.out j e)))
          obtain ⟨hc3, hK3⟩ := HCK.out wr hF
          have hr3 := hF1.row hr (fun j hj e => by
            have h1 := HLT.out j (HLB.out j e)
            rcases hr.2 with ⟨e', _⟩ | ⟨g', _, _, e', _, hgg, _⟩
            · cases e'
            · cases e'
              simp [Value.ownBlock] at hj; subst hj
              exact row_ne hx hgg (by decide) g e rfl)
          have hr3' := hr3
          rw [← HLEN.out] at hr3'
          obtain ⟨_, c13, _⟩ := row_cells3 hr3' m hlt'
          obtain ⟨cur, hcur, -, -, -, -⟩ := row_open hr3
          have hfz := blk_free hcur (m * 3 + 1)
          have hr4 := row_setC hr3 (m * 3 + 1) (by omega) (.slice ua (n + 40) uc)
          have hcs := hcells_set hs' m hlt' (.slice ua (n + 40) uc)
          rw [← hcs] at hr4
          have hfs := Fr.setCell wr ⟨g, m * 3 + 1, none⟩ (.slice ua (n + 40) uc)
          obtain ⟨W4, hW4⟩ : ∃ x, wr.setCell ⟨g, m * 3 + 1, none⟩ (.slice ua (n + 40) uc) = x := ⟨_, rfl⟩
          rw [hW4] at hr4 hfs
          have hgu8 : ∀ {v : Value} {N : Nat} {xs : List Value}, wr.ownsRow B 5 1 v N xs → W4.ownsRow B 5 1 v N xs := fun h => hfs.row h (row_ne h hcur (by decide))
          have hall : ∀ (j : Nat) (h1 : j < (hs'.set m ⟨hs'[m].v, hs'[m].n, .slice ua (n + 40) uc, hs'[m].k⟩).length) (h2 : j < hs.length),
              (hs'.set m ⟨hs'[m].v, hs'[m].n, .slice ua (n + 40) uc, hs'[m].k⟩)[j].v = hs[j].v ∧ (hs'.set m ⟨hs'[m].v, hs'[m].n, .slice ua (n + 40) uc, hs'[m].k⟩)[j].n = hs[j].n ∧ (hs'.set m ⟨hs'[m].v, hs'[m].n, .slice ua (n + 40) uc, hs'[m].k⟩)[j].k = hs[j].k ∧
              (j < m + 1 → Grown W4 B 5 B1 repB (hs'.set m ⟨hs'[m].v, hs'[m].n, .slice ua (n + 40) uc, hs'[m].k⟩)[j]) ∧ (m + 1 ≤ j → (hs'.set m ⟨hs'[m].v, hs'[m].n, .slice ua (n + 40) uc, hs'[m].k⟩)[j] = hs[j] ∧ W4.ownsRow B 5 1 hs[j].v hs[j].n (repB hs[j].n hs[j].k)) := by
            intro j h1 h2
            rw [List.getElem_set]
            by_cases e : m = j
            · subst e
              rw [if_pos rfl]
              have e1 : hs'[m] = hs[m] := HME.out.trans HQ.out.symm
              have e2 := HME.out
              simp only [e2]
              rw [HQ.out]
              exact ⟨rfl, rfl, rfl, fun _ => ⟨hgu8 hxi, hgu8 hlv, fun g' hg' => (hwh g' hg').imp id (fun h => by omega)⟩, fun h => absurd h (by omega)⟩
            · rw [if_neg e]
              have h1' : j < hs'.length := by rw [HLEN.out]; exact h2
              obtain ⟨s1, s2, s3, s4, s5⟩ := HS.out j h1' h2
              refine ⟨s1, s2, s3, fun h => ?_, fun h => ?_⟩
              · have hgd := s4 (by omega)
                have h3 := hgd.fr hF1 (fun g' hg' e' => HDIS.out j h2 e g' e' (by rw [← s1]; exact hg')) (fun g' hg' _ e' => by have := HLT.out g' (HLB.out g' e'); omega)
                exact ⟨hgu8 h3.list, hgu8 h3.long, h3.where_⟩
              · obtain ⟨t1, t2⟩ := s5 (by omega)
                exact ⟨t1, hgu8 (hF1.row t2 (fun g' hg' e' => HDIS.out j h2 e g' e' hg'))⟩
          have hF4 : Fr (fun j => lblk hs j ∨ (Value.slice (some ⟨g, 0, none⟩) hs.length c).ownBlock = some j) w W4 := hF.trans hfs (fun j e => .inl (.inr (by rw [show j = g from e]; rfl)))
          have HA := Lib.hid hall
          have HF4 := Lib.hid hF4
          have HR4 := Lib.hid hr4
          have HLS : Hid ((hs'.set m ⟨hs'[m].v, hs'[m].n, .slice ua (n + 40) uc, hs'[m].k⟩).length = hs.length) := Lib.hid (by rw [List.length_set]; exact HLEN.out)
          clear hall hF4 hr4 hcs hgu8 hr3' hr3 hlv hxi hwh hfi hbi b2 hcur
          go_wp2
          refine ⟨⟨m + 1, by omega, by go_num, ⟨_, HLS.out, ?_, ?_⟩, ?_⟩, ?_⟩
          · exact HR4.out
          · exact HA.out
          · exact HF4.out
          · simp [intOf]; omega
    · go_wp2
      go_end0
      refine ⟨rfl, hs', HLEN.out, hKr, hr, fun i hi => ?_, hfr⟩
      have hi' : i < hs.length := by rw [← HLEN.out]; exact hi
      obtain ⟨s1, s2, s3, s4, _⟩ := HS.out i hi hi'
      obtain ⟨k1, k2⟩ := HKK.out _ (List.getElem_mem hi')
      exact ⟨s4 (by omega), by rw [s3]; exact k1, by rw [s2]; exact k2⟩
end Go.Proofs.YtanlgidliflepaaDoor
