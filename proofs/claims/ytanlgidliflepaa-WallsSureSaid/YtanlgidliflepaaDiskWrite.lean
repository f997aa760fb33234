/- sectors.Write. Conditions: counts that fit. -/
import Derived.Test.YtanlgidliflepaaDiskNew
import Derived.Test.YtanlgidliflepaaRegion
namespace Go.Proofs.Ytanlgidliflepaa
open Go.RowKit

def pad (l : List UInt8) : List UInt8 := l ++ zeros (64 - l.length)
theorem pad_length (l : List UInt8) (h : l.length ≤ 64) : (pad l).length = 64 := by simp [pad, zeros]; omega
def Dk.write (S : Dk) (at_ : Nat) (p : List UInt8) : Dk := { S with seen := splice S.seen (at_ * 64) p, waits := S.waits ++ [(at_, p)] }
theorem splice_pad (l : List UInt8) (_ : l.length ≤ 64) : splice (bvals (zeros 64)) 0 (bvals l) = bvals (pad l) := by
  rw [← bvals_splice]; congr 1; unfold splice pad zeros; rw [List.drop_replicate]; simp only [List.take_zero, List.nil_append, Nat.zero_add]

theorem Dk.write_ok {S : Dk} (h : S.ok) (at_ : Nat) (p : List UInt8) (ha : at_ < S.n) (hp : p.length = 64) : (S.write at_ p).ok :=
  ⟨h.pos, h.most, h.sure, by show (splice S.seen (at_ * 64) p).length = S.n * 64; rw [splice_length _ _ _ (by rw [h.seen, hp]; omega)]; exact h.seen,
   fun x hx => by
    rcases List.mem_append.1 hx with h1 | h1
    · exact h.waits x h1
    · simp at h1; subst h1; exact ⟨ha, hp⟩⟩

theorem zero_piece : ∀ w, (zeroValue 64).run Try.prog w = .ok (.agg (bcells (zeros 64))) w := fun _ => by kernel_rfl
theorem size_piece : (Try.prog.info? 64).map (·.size) = some 64 := by kernel_rfl
theorem info_write : (Try.prog.info? 66).map (fun i => (i.zero, i.size, i.bytes)) = some (some (.agg (Value.int .i64 0 :: bvals (zeros 64)).toArray), 65, 72) := by kernel_rfl

def fl (f : Nat → UInt8) : List UInt8 := (List.range 64).map f
theorem fl_of (p : List UInt8) (h : p.length = 64) : ∃ f, p = fl f := ⟨fun i => p.getD i 0, by
  apply List.ext_getElem (by simp [fl, h])
  intro i h1 h2
  simp [fl, h1]⟩
def wcell1 (at_ : Nat) (f : Nat → UInt8) : Array Value := (Value.int .i64 (at_ : Int) :: bvals (fl f)).toArray
theorem built_write (at_ : Nat) (f : Nat → UInt8) : Try.prog.built 66 [(0, .int .i64 (at_ : Int)), (1, .agg (bcells (fl f)))] = some (wcell1 at_ f) := by kernel_rfl
theorem slice_write (at_ : Nat) (f : Nat → UInt8) (w : World) : (Instr.buildSlice 38 1 #[(0, .agg (wcell1 at_ f))]).run Try.prog w = .ok (.slice (some ⟨w.heap.size, 0, none⟩) 1 1) (w.alloc (.cells (wcell1 at_ f) 66)) := by kernel_rfl

set_option maxHeartbeats 2000000 in
set_option maxRecDepth 100000 in
theorem write_any (D : Nat) (S : Dk) (fp : Nat → Prop) (at_ : Nat) (a : Option Addr) (l : List UInt8) (cap : Nat) (w : World) (h : IsDsk w D S fp) (hb : IsB w a l) (hbl : ∀ x, a = some x → x.block < w.heap.size)
    (hat : at_ < S.n) (hl : l.length ≤ 64) (hw : S.waits.length ≤ 1000000000) :
    Calls Try.prog 20 #[.pointer (some ⟨D, 0, none⟩), .int .i64 at_, .slice a l.length cap] w fun e w' => e = .returned (.int .i64 0) ∧ ∃ fp', IsDsk w' D (S.write at_ (pad l)) fp' ∧ Fr fp w w' ∧ ∀ k, fp' k → fp k ∨ w.heap.size ≤ k := by
  have hz := zero_piece
  have hmay := may_any D S fp at_ w h
  rw [if_pos (by omega)] at hmay
  have HM := Lib.hid hmay
  clear hmay
  go_enter Try.func20, Try.ntmps20
  go_wp2_with (first | (go_at_call 32; refine HM.out.mono ?_; rintro e w' ⟨rfl, rfl⟩) | (with_reducible refine wpList_copy_splice rfl (.tmp 18) (.tmp 19) 22 22 rfl 5 Try.underlying22 ?c1 _ _ _ _ _ _ rfl rfl w.heap.size 0 (bvals (zeros 64)) 64 ?c2 (bvals l) ?c3 ?c4 ?c5 ?c6 w.heap.size w ?c7 ?c8 ?_))
  case c1 => kernel_rfl
  case c2 => exact heap_alloc_new _ _
  case c3 => rw [bvals_length]; exact (Nat.min_eq_left hl).symm
  case c4 =>
    intro hpos
    cases a with
    | none => rcases hb with h0 | ⟨b, off, h0, _⟩
              · simp [h0, bvals] at hpos
              · cases h0
    | some ad => exact ⟨ad, rfl, (hb.alloc _).src⟩
  case c5 => rw [bvals_length, bvals_length]; simp only [zeros, List.length_replicate]; omega
  case c6 => exact bvals_one l
  case c7 => exact (Below.refl _ w).alloc (Nat.le_refl _) _
  case c8 => exact Nat.le_refl _
  intro w2 hP hB2
  have hf2 := Fr.of_below hB2
  have hlt0 : ∀ k, fp k → k < w.heap.size := by obtain ⟨_, _, _, _, _, h⟩ := h; exact h.lt
  obtain ⟨g1, c1, g2, c2, v3, hd⟩ := h.fr hf2 (fun _ _ => not_noBlk _)
  have h2lt : g2 < w.heap.size := hlt0 _ hd.f2
  rw [splice_pad l hl] at hP
  have hgP : w2.heap[w.heap.size]? = some (.cells (bcells (pad l)) 64 (0, 0)) := hP.out
  clear hP
  have hpl := pad_length l hl
  obtain ⟨p, hp⟩ : ∃ p, p = pad l := ⟨_, rfl⟩
  rw [← hp] at hpl hgP
  have HP := Lib.hid hp
  clear hp
  have hcD1 := blk_cell hd.blk 1 rfl
  have hcD2 := blk_cell hd.blk 2 rfl
  have hn : S.n ≤ 4096 := hd.ok.most
  generalize hq : w.heap.size = q at *
  have hsz : (Try.prog.info? 64).map (·.size) = some (bcells p).size := by rw [size_piece]; simp [bcells, bvals, hpl]
  go_wp2_with fail
  go_still_tail 6, (by kernel_rfl)
  refine wpStill_load_row rfl 64 _ rfl q rfl 64 (bcells p) (0, 0) _ hgP Try.underlying64 rfl hsz ?_
  repeat still_step
  refine wpStill_nil ?_
  change wpList _ _ _ _ _ w2.drew
  obtain ⟨cur, hg2, hnc, hcs, htk, _⟩ := row_open hd.r2
  have hg2' : w2.drew.heap[g2]? = some (.cells cur 64 (0, 0)) := hg2
  have hfit : at_ * 64 + (bcells p).size ≤ cur.size := by
    have := hd.r2.1
    have hle : S.n * 64 ≤ c2 * 64 := Nat.mul_le_mul_right _ hnc
    rw [hcs]; simp only [bcells, List.size_toArray, bvals_length, hpl]; omega
  have hb1 : ∀ v ∈ (bcells p).toList, v.oneCell' = true := by intro v hv; exact bvals_one p v (by simpa [bcells] using hv)
  go_wp2_with (refine wpList_store_in rfl 64 (.tmp 27) (.tmp 26) rfl g2 (at_ * 64) (bcells p) rfl rfl cur 64 hg2' hfit hsz hb1 ?_)
  have hf3 : Fr (oneBlk g2) w2 (w2.drew.setRow g2 (splice cur.toList (at_ * 64) (bcells p).toList).toArray) := ((Fr.drew w2).mono (fun _ h => h.elim)).trans (Fr.setRow _ _ _) (fun _ h => .inl h)
  have hg3 : (w2.drew.setRow g2 (splice cur.toList (at_ * 64) (bcells p).toList).toArray).heap[g2]? = some (.cells (splice cur.toList (at_ * 64) (bcells p).toList).toArray 64 (0, 0)) := setRow_heap _ _ _ _ _ _ hg2'
  generalize w2.drew.setRow g2 (splice cur.toList (at_ * 64) (bcells p).toList).toArray = w3 at *
  have hDg : D ≠ g2 := by rintro rfl; rw [hd.blk] at hg2; simp at hg2
  have hqg : q ≠ g2 := by rintro rfl; exact absurd (h2lt) (by omega)
  have hD3 := hf3.blk hd.blk hDg
  have hP3 := hf3.blk hgP hqg
  have e2 := blk_cell hD3 2 rfl
  have e1 := blk_free hD3 2
  obtain ⟨f, rfl⟩ := fl_of p hpl
  go_wp2_with fail
  refine wp_region_L 12 (fun W => W.cell? ⟨D, 2, none⟩ = some v3 ∧ W.heap[q]? = some (.cells (bcells (fl f)) 64 (0, 0))) (by kernel_rfl) ?_
  have hS : (fun W : World => W.cell? ⟨D, 2, none⟩ = some v3 ∧ W.heap[q]? = some (.cells (bcells (fl f)) 64 (0, 0))) w3.drew := ⟨e2, hP3⟩
  have tk0 : True := trivial
  refine anyL_take 0 rfl (by kernel_rfl) (by kernel_rfl) (fun _ _ _ h => h) (v := ?vA0) (yields_run rfl ?yA0) hS ?_
  case yA0 => intro W ⟨hS1, hS2⟩; go_simp; with_reducible rfl
  go_simp
  refine anyL_take 1 rfl (by kernel_rfl) (by kernel_rfl) (fun _ _ _ h => h) (v := ?vA1) (yields_run rfl ?yA1) hS ?_
  case yA1 => intro W ⟨hS1, hS2⟩; go_simp; with_reducible rfl
  go_simp
  refine anyL_take 2 rfl (by kernel_rfl) (by kernel_rfl) (fun _ _ _ h => h) (v := ?vA2) (yields_run rfl ?yA2) hS ?_
  case yA2 => intro W ⟨hS1, hS2⟩; go_simp; with_reducible rfl
  go_simp
  refine anyL_take 3 rfl (by kernel_rfl) (by kernel_rfl) (fun _ _ _ h => h) (v := ?vA3) (yields_run rfl ?yA3) hS ?_
  case yA3 => intro W ⟨hS1, hS2⟩; go_simp; with_reducible rfl
  go_simp
  refine anyL_take 4 rfl (by kernel_rfl) (by kernel_rfl) (fun _ _ _ h => h) (v := ?vA4) (yields_run rfl ?yA4) hS ?_
  case yA4 => intro W ⟨hS1, hS2⟩; go_simp; with_reducible rfl
  go_simp
  refine anyL_take 5 rfl (by kernel_rfl) (by kernel_rfl) (fun _ _ _ h => h) (v := ?vA5) (yields_run rfl ?yA5) hS ?_
  case yA5 => intro W ⟨hS1, hS2⟩; go_simp; with_reducible rfl
  go_simp
  refine anyL_take 6 rfl (by kernel_rfl) (by kernel_rfl) (fun _ _ _ h => h) (yields_load_row rfl 64 _ rfl q rfl 64 (bcells (fl f)) (0, 0) _ (fun W hW => hW.2) Try.underlying64 rfl hsz) hS ?_
  go_simp
  refine anyL_take 7 rfl (by kernel_rfl) (by kernel_rfl) (fun _ _ _ h => h) (v := .agg (wcell1 at_ f)) (yields_run rfl (fun W _ => by kernel_rfl)) hS ?_
  go_simp
  refine anyL_one 8 rfl (by kernel_rfl) rfl (wp_run (v := .slice (some ⟨w3.heap.size, 0, none⟩) 1 1) (w' := w3.drew.alloc (.cells (wcell1 at_ f) 66)) (by kernel_rfl) ?_)
  have hS4 : (fun W : World => W.cell? ⟨D, 2, none⟩ = some v3 ∧ W.heap[q]? = some (.cells (bcells (fl f)) 64 (0, 0))) (w3.drew.alloc (.cells (wcell1 at_ f) 66)) := ⟨(Fr.alloc w3.drew _).cell hS.1 (not_noBlk _), (Fr.alloc w3.drew _).blk hS.2 (not_noBlk _)⟩
  refine ⟨fun _ => hS4, ?_⟩
  have r3 : (w3.drew.alloc (.cells (wcell1 at_ f) 66)).ownsRow 0 66 65 v3 S.waits.length (wcells S.waits) :=
    (Fr.alloc w3.drew _).row ((Fr.drew w3).row (hf3.row hd.r3 (row_ne hd.r3 hg2 (by decide))) (fun _ _ => not_noBlk _)) (fun _ _ => not_noBlk _)
  obtain ⟨i0, hi, hz0, hz1, hz2⟩ := info_parts info_write
  go_simp
  refine anyL_one 9 rfl (by kernel_rfl) rfl ?_
  refine wp_append_at (.tmp 32) (.tmp 36) 38 rfl 0 66 i0 (.agg (Value.int .i64 0 :: bvals (zeros 64)).toArray) 65 72 Try.underlying38 hi hz0 hz1 hz2 ?k1 (by decide) v3 S.waits.length (wcells S.waits) rfl r3 ⟨w3.heap.size, 0, none⟩ 1 1 (wcell1 at_ f).toList rfl ?k2 ?k3 ?k4 ?k5 ?k6 ?k7 ?k8
  case k1 => kernel_rfl
  case k2 => simp [wcell1, bvals, fl]
  case k3 =>
    intro j u hu
    have e := cell_of_row (w3.drew.alloc (.cells (wcell1 at_ f) 66)) w3.heap.size (0 + j) (wcell1 at_ f) 66 (0, 0) (heap_alloc_new w3.drew _)
    rw [Addr.add_mid]
    exact e.trans (by simpa using hu)
  case k4 =>
    intro u hu
    simp only [wcell1, List.mem_cons] at hu
    rcases hu with rfl | hu
    · rfl
    · exact bvals_one _ u hu
  case k5 => simp only [maxLen]; omega
  case k6 => omega
  case k7 => exact Nat.zero_le _
  case k8 =>
    intro v' w5 hown5 hg5 _ hwh5
    obtain ⟨g5, c5, rfl⟩ := ownsRow_succ hown5
    have hf5 := Fr.grown hg5
    have hD4 := (Fr.alloc w3.drew (.cells (wcell1 at_ f) 66)).blk ((Fr.drew w3).blk hD3 (not_noBlk _)) (not_noBlk _)
    have hv3D : ¬ (v3.ownBlock = some D) := fun e => row_ne r3 hD4 (by decide) D e rfl
    have hD5 := hf5.blk hD4 hv3D
    have hv3q : ¬ (v3.ownBlock = some q) := fun e => row_ne r3 hS4.2 (by decide) q e rfl
    have hS5 : (fun W : World => W.cell? ⟨D, 2, none⟩ = some v3 ∧ W.heap[q]? = some (.cells (bcells (fl f)) 64 (0, 0))) w5 := ⟨blk_cell hD5 2 rfl, hf5.blk hS4.2 hv3q⟩
    refine ⟨fun _ => hS5, ?_⟩
    go_simp
    refine anyL_one 10 rfl (by kernel_rfl) rfl (wp_run (v := .pointer (some ⟨D, 0, none⟩)) (w' := w5) (by kernel_rfl) ?_)
    refine ⟨fun _ => hS5, ?_⟩
    go_simp
    refine anyL_one 11 rfl (by kernel_rfl) rfl (wp_run (v := .pointer (some ⟨D, 2, none⟩)) (w' := w5) (by kernel_rfl) ?_)
    refine ⟨fun _ => hS5, ?_⟩
    go_simp
    refine anyL_one 12 rfl (by kernel_rfl) rfl ?_
    have hfz := blk_free hD5 2
    have hc5 := hS5.1
    go_simp
    refine anyL_done (by kernel_rfl) ?_ _
    go_wp2
    go_ret
    have hrow2 : w3.ownsRow 0 64 64 (.slice (some ⟨g2, 0, none⟩) S.n c2) S.n (bvals (splice S.seen (at_ * 64) (fl f))) := by
      rw [bvals_splice]
      refine row_splice hd.r2 hg2 ?_ ?_
      · simpa [bcells] using hg3
      · rw [bvals_length, hpl]; omega
    have hf45 : Fr (fun k => v3.ownBlock = some k) w3 w5 := (((Fr.drew w3).mono (fun _ h => h.elim)).trans ((Fr.alloc w3.drew (.cells (wcell1 at_ f) 66))) (fun _ h => h.elim)).trans hf5 (fun _ h => .inl h)
    have hf6 := Fr.setCell w5 ⟨D, 2, none⟩ (Value.slice (some ⟨g5, 0, none⟩) (S.waits.length + 1) c5)
    have n1 : g1 ≠ D := by rintro rfl; obtain ⟨_, h', _⟩ := row_open hd.r1; rw [hd.blk] at h'; simp at h'
    have ne1 : ¬ (v3.ownBlock = some g1) := fun e => by obtain ⟨_, h', _⟩ := row_open hd.r1; exact row_ne hd.r3 h' (by decide) g1 e rfl
    have ne2 : ¬ (v3.ownBlock = some g2) := fun e => row_ne hd.r3 hg2 (by decide) g2 e rfl
    have hw23 : w2.heap.size ≤ w3.heap.size := hf3.size
    have hw02 : w.heap.size ≤ w2.heap.size := hB2.size
    have hw35 : w3.heap.size ≤ w5.heap.size := hf45.size
    have g5lt : g5 < w5.heap.size := by obtain ⟨_, h', _⟩ := row_open hown5; exact blk_lt h'
    have n5 : g5 ≠ D := by rintro rfl; obtain ⟨_, h', _⟩ := row_open hown5; rw [hD5] at h'; simp at h'
    rw [← HP.out]
    refine ⟨rfl, fun k => fp k ∨ k = g5, ⟨g1, c1, g2, c2, Value.slice (some ⟨g5, 0, none⟩) (S.waits.length + 1) c5, ?_⟩, ?_, ?_⟩
    · refine ⟨Dk.write_ok hd.ok at_ (fl f) hat hpl, ?_, ?_, ?_, ?_, hd.ne, .inl hd.fD, .inl hd.f1, .inl hd.f2, ?_, ?_⟩
      · exact blk_set hD5 2 _
      · exact hf6.row (hf45.row (hf3.row hd.r1 (fun g e => by simp [Value.ownBlock] at e; subst e; exact hd.ne)) (fun g e => by simp [Value.ownBlock] at e; subst e; exact ne1)) (fun g e => by simp [Value.ownBlock] at e; subst e; exact n1)
      · exact hf6.row (hf45.row hrow2 (fun g e => by simp [Value.ownBlock] at e; subst e; exact ne2)) (fun g e => by simp [Value.ownBlock] at e; subst e; exact Ne.symm hDg)
      · have : (S.write at_ (fl f)).waits.length = S.waits.length + 1 := by simp [Dk.write]
        rw [this]
        refine hf6.row (xs := wcells (S.write at_ (fl f)).waits) ?_ (fun g e => by simp [Value.ownBlock] at e; subst e; exact n5)
        simpa [Dk.write, wcells_snoc, wcell1] using hown5
      · intro g e; simp [Value.ownBlock] at e; exact .inr e.symm
      · intro k hk
        have e6 : (w5.setCell ⟨D, 2, none⟩ (Value.slice (some ⟨g5, 0, none⟩) (S.waits.length + 1) c5)).heap.size = w5.heap.size := by simp
        rw [e6]
        rcases hk with hk | rfl
        · have := hlt0 k hk; omega
        · exact g5lt
    · refine ((((hf2.mono (fun _ h => h.elim)).trans hf3 (fun k e => by left; have e' : k = g2 := e; subst e'; exact hd.f2)).trans hf45 (fun k e => .inl (hd.f3 k e))).trans hf6 (fun k e => by left; have e' : k = D := e; subst e'; exact hd.fD))
    · intro k hk
      rcases hk with hk | rfl
      · exact .inl hk
      · rcases hwh5 k rfl with h' | h'
        · exact .inl (hd.f3 k h')
        · right
          have e4 : (w3.alloc (.cells (wcell1 at_ f) 66)).drew.heap.size = w3.heap.size + 1 := by simp
          rw [e4] at h'
          omega
end Go.Proofs.Ytanlgidliflepaa
