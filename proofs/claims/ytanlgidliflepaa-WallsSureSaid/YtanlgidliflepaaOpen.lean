/- walls.Open. Conditions: a disk that is there. -/
import Derived.Test.YtanlgidliflepaaFound
import Derived.Test.YtanlgidliflepaaBEq
import Derived.Test.YtanlgidliflepaaDiskFail
import Derived.Maps.OwnIn
namespace Go.Proofs.Ytanlgidliflepaa
open Go.RowKit
attribute [local go_sem] Oper.semAt_some

/-- Where the records that bytes begin with end. -/
def used (l : List UInt8) : Nat := ((parse l).map (·.2)).sum
/-- The sectors from k on, below m, that hold anything, cleared one by one. -/
def clearTo (S : Dk) (all : List UInt8) (u : Nat) : Nat → Dk
  | 0 => S
  | k + 1 => if (all.drop ((u + k) * 64)).take 64 = zeros 64 then clearTo S all u k else (clearTo S all u k).write (u + k) (zeros 64)
def Dk.opened (S : Dk) : Dk := (clearTo S S.seen (used S.seen) (S.n - used S.seen)).sync

/-- The records of a list, each owned in memory. -/
def RecsAt (w : World) (B : Nat) (v : Value) (xs : List Rec) : Prop := w.ownsRow B 22 1 v xs.length (xs.map (·.v)) ∧ ∀ x ∈ xs, x.got B w

def sumk (xs : List Rec) : Nat := (xs.map (·.k)).sum
/-- What stands in memory between two rounds of the loop over the records. -/
structure Mid (D L b0 b1 Bx E : Nat) (w0 : World) (xs : List Rec) (W : World) : Prop where
  log : W.heap[L]? = some (.cells #[.pointer (some ⟨D, 0, none⟩), .int .i64 (sumk xs : Nat)] 28 (0, 0))
  one : W.heap[b0]? = some (.cells #[.pointer (some ⟨L, 0, none⟩)] 23 (0, 0))
  two : ∃ v, W.heap[b1]? = some (.cells #[v] 34 (0, 0)) ∧ W.ownsRow E 22 1 v xs.length (xs.map (·.v))
  recs : ∀ x ∈ xs, x.got E W
  sum : sumk xs ≤ xs.length * 16000000
  fr : Fr (fun k => k = b1 ∨ k = L ∨ k = Bx ∨ E ≤ k) w0 W

theorem info_sl : (Try.prog.info? 22).map (fun i => (i.zero, i.size, i.bytes)) = some (some (.slice none 0 0), 1, 24) := by kernel_rfl
theorem used_le_n : ∀ (n : Nat) (l : List UInt8), l.length ≤ n → used l * 64 ≤ l.length := by
  intro n
  induction n with
  | zero =>
    intro l hl
    have : getF l = none := by
      cases h : getF l with
      | none => rfl
      | some x => obtain ⟨r, k⟩ := x; obtain ⟨h1, h2, _⟩ := getF_some h; omega
    unfold used; rw [parse_end this]; simp
  | succ n ih =>
    intro l hl
    cases h : getF l with
    | none => unfold used; rw [parse_end h]; simp
    | some x =>
      obtain ⟨r, k⟩ := x
      obtain ⟨h1, h2, _⟩ := getF_some h
      have := ih (l.drop (k * 64)) (by rw [List.length_drop]; omega)
      rw [List.length_drop] at this
      unfold used at this ⊢; rw [parse_step h, List.map_cons, List.sum_cons]; simp only; omega
theorem used_le (l : List UInt8) : used l * 64 ≤ l.length := used_le_n _ l (Nat.le_refl _)
theorem IsB.of_bvals {w : World} {b : Nat} {l : List UInt8} {t : TypeId} {fr : Nat × Nat} (h : w.heap[b]? = some (.cells (bvals l).toArray t fr)) : IsB w (some ⟨b, 0, none⟩) l :=
  IsB.of_blk h l fun j hj => by rw [Nat.zero_add, List.getElem?_toArray, bvals_get]; simp [hj]
theorem bytesEq_at (b1 o1 c1 b2 o2 c2 n1 n2 : Nat) (l m : List UInt8) (w : World) (e1 : n1 = l.length) (e2 : n2 = m.length) (h1 : IsB w (some ⟨b1, o1, none⟩) l) (h2 : IsB w (some ⟨b2, o2, none⟩) m) :
    Calls Try.prog 25 #[.slice (some ⟨b1, o1, none⟩) n1 c1, .slice (some ⟨b2, o2, none⟩) n2 c2] w fun e w' => e = .returned (.bool (decide (l = m))) ∧ w = w' := by
  subst e1 e2; exact bytesEq_any b1 o1 c1 b2 o2 c2 l m w h1 h2
theorem write_at (D : Nat) (S : Dk) (fp : Nat → Prop) (at_ : Nat) (a : Option Addr) (l p : List UInt8) (n cap : Nat) (w : World) (h : IsDsk w D S fp) (hb : IsB w a l) (hbl : ∀ x, a = some x → x.block < w.heap.size)
    (hat : at_ < S.n) (hl : l.length ≤ 64) (hw : S.waits.length ≤ 1000000000) (hn : n = l.length) (hp : p = pad l) {atI : Int} (hI : atI = at_) :
    Calls Try.prog 20 #[.pointer (some ⟨D, 0, none⟩), .int .i64 atI, .slice a n cap] w fun e w' => e = .returned (.int .i64 0) ∧ ∃ fp', IsDsk w' D (S.write at_ p) fp' ∧ Fr fp w w' ∧ ∀ k, fp' k → fp k ∨ w.heap.size ≤ k := by
  subst hn hp hI; exact write_any D S fp at_ a l cap w h hb hbl hat hl hw
theorem clearTo_ok {S : Dk} (h : S.ok) (all : List UInt8) (u : Nat) : ∀ k, u + k ≤ S.n → (clearTo S all u k).ok ∧ (clearTo S all u k).n = S.n ∧ (clearTo S all u k).waits.length ≤ S.waits.length + k
  | 0, _ => ⟨h, rfl, by simp [clearTo]⟩
  | k + 1, hk => by
    obtain ⟨h1, h2, h3⟩ := clearTo_ok h all u k (by omega)
    rw [clearTo]
    split
    · exact ⟨h1, h2, by omega⟩
    · refine ⟨Dk.write_ok h1 _ _ (by omega) (by simp [zeros]), h2, ?_⟩
      simp only [Dk.write, List.length_append, List.length_singleton]; omega
theorem Fr.setSame {w : World} {b : Nat} {v : Value} {t : TypeId} (h : w.heap[b]? = some (.cells #[v] t (0, 0))) : Fr noBlk w (w.setCell ⟨b, 0, none⟩ v) :=
  ⟨rfl, rfl, rfl, by simp, fun k _ _ => by
    by_cases e : k = b
    · subst e; rw [blk_set h 0 v, h]; simp
    · exact heap_setCell_other w ⟨b, 0, none⟩ k v e⟩
theorem wpIn_norm {c : Code} {F : Fence} {n : Nat} {P : Program} {K : Act → World → Prop} {Q' : Exit → Act → World → Prop} {a : Act} {w : World} (h : c.wpIn F n P (Exit.then K fun _ _ _ => False) a w) : c.wpIn F n P (Exit.then K Q') a w := by
  refine wpIn_mono h ?_
  rintro e a w h
  cases e <;> first | exact h | exact h.elim
theorem run_loadVar_log (w : World) (a : Addr) (v : Value) (h : w.cell? a = some v) : (loadVar 23 a).run Try.prog w = .ok v w := by go_simp
theorem run_loadVar_rows (w : World) (a : Addr) (v : Value) (h : w.cell? a = some v) : (loadVar 34 a).run Try.prog w = .ok v w := by go_simp
theorem results_cct {fn : Func} {p q u : Tmp} {ty ty' : TypeId} (h : fn.results = #[.cell p ty, .cell q ty', .tmp u]) {P : Program} {w : World} {tmps : Array Value} {ap aq : Addr} {vp vq vu : Value} (hp : tmps.getD p undef = .pointer (some ap)) (hq : tmps.getD q undef = .pointer (some aq)) (hu : tmps.getD u undef = vu)
    (lp : (loadVar ty ap).run P w = .ok vp w) (lq : (loadVar ty' aq).run P w = .ok vq w) : (results fn tmps).run P w = .ok (.tuple #[vp, vq, vu]) w := by
  subst hu
  simp only [Array.getD_eq_getD_getElem?] at hp hq
  simp only [results, h]
  simp [Sem.run_bind, Result.andThen, hp, hq, asAddr, lp, lq]
theorem Fr.putBoth {fp : Nat → Prop} {W V : World} (h : Fr fp W V) (l : Nat) (o : Obj) (hl : l < W.heap.size) : Fr fp (W.putObj l o) (V.putObj l o) :=
  ⟨h.os, h.tape, h.output, by rw [World.putObj_size, World.putObj_size]; exact h.size, fun k hk hn => by
    rw [World.putObj_size] at hk
    by_cases e : k = l
    · subst e; rw [World.putObj_heap_same hk, World.putObj_heap_same (Nat.lt_of_lt_of_le hk h.size)]
    · rw [World.putObj_heap_other e, World.putObj_heap_other e]; exact h.same k hk hn⟩
theorem row_not {w : World} {base e size n D : Nat} {v : Value} {xs : List Value} {x : Option (List Deferred)} (h : w.ownsRow base e size v n xs) (hd : w.heap[D]? = some (.deferred x)) : ∀ g, v.ownBlock = some g → ¬ (g = D) := by
  rintro g hg rfl
  rcases h.2 with ⟨rfl, _⟩ | ⟨g', cap, cur, rfl, _, hgg, _⟩
  · cases hg
  · simp [Value.ownBlock] at hg; subst hg; rw [hd] at hgg; cases hgg
theorem cells_ne {W : World} {k : Nat} {cs : Array Value} {t : TypeId} {fr : Nat × Nat} {row : Option Nat} (h : W.heap[k]? = some (.cells cs t fr)) (hr : ∀ r, row = some r → ∃ o : Obj, W.heap[r]? = some o ∧ o.isCells = false) : some k ≠ row := by
  rintro rfl
  obtain ⟨o, ho, hc⟩ := hr k rfl
  rw [h] at ho; cases ho; simp [Obj.isCells] at hc
theorem row_kept {W W' : World} {base e size n : Nat} {v : Value} {xs : List Value} {row : Option Nat} (h : W.ownsRow base e size v n xs) (hg : W.grownBy W' row) (hr : ∀ r, row = some r → ∃ o : Obj, W.heap[r]? = some o ∧ o.isCells = false) : W'.ownsRow base e size v n xs := by
  refine h.kept hg ?_
  rcases h.2 with ⟨rfl, _⟩ | ⟨g, cap, cur, rfl, _, hgg, _⟩
  · exact .inl rfl
  · exact .inr (cells_ne hgg hr)
theorem row_past {w w' : World} {base base' e e' size size' n n' : Nat} {v v' : Value} {xs xs' : List Value} (h : w.ownsRow base e size v n xs) (hv : w.ownsRow base' e' size' v' n' xs') (hg : w.grownBy w' v'.ownBlock) (ht : e ≠ e') : w'.ownsRow base e size v n xs := by
  refine h.kept hg ?_
  rcases h.2 with ⟨rfl, _⟩ | ⟨g, cap, cur, rfl, _, hgg, _⟩
  · exact .inl rfl
  · refine .inr ?_
    rcases hv.2 with ⟨rfl, _⟩ | ⟨g', cap', cur', rfl, _, hgg', _⟩
    · simp [Value.ownBlock]
    · simp only [Value.ownBlock, ne_eq, Option.some.injEq]
      rintro rfl
      rw [hgg] at hgg'; simp at hgg'; exact ht hgg'.2
theorem keeps_row {w : World} {base e size n : Nat} {v : Value} {xs : List Value} (h : w.ownsRow base e size v n xs) : ∀ (j : Nat) (o : Obj), v.ownBlock = some j → w.heap[j]? = some o → o.isCells = true := by
  intro j o hj ho
  rcases h.2 with ⟨rfl, _⟩ | ⟨g, cap, cur, rfl, _, hgg, _⟩
  · cases hj
  · simp [Value.ownBlock] at hj; subst hj; rw [hgg] at ho; cases ho; rfl
theorem Rec.got_from (E : Nat) : OwnFrom E (Rec.got E) := fun _ _ _ _ hs hg hr => ⟨row_kept hs.1 hg (fun r e => (hr r e).2), hs.2⟩
theorem Mid.from (D L b0 b1 Bx E : Nat) (w0 : World) (_ : w0.heap.size ≤ E) : OwnFrom E (Mid D L b0 b1 Bx E w0) := by
  intro xs W W' row hs hg hr
  have hr' : ∀ r, row = some r → ∃ o : Obj, W.heap[r]? = some o ∧ o.isCells = false := fun r e => (hr r e).2
  refine ⟨?_, ?_, ?_, ?_, hs.sum, ?_⟩
  · exact (hg.block L (blk_lt hs.log) (cells_ne hs.log hr')).trans hs.log
  · exact (hg.block b0 (blk_lt hs.one) (cells_ne hs.one hr')).trans hs.one
  · obtain ⟨v, h1, h2⟩ := hs.two
    exact ⟨v, (hg.block b1 (blk_lt h1) (cells_ne h1 hr')).trans h1, row_kept h2 hg hr'⟩
  · exact fun x hx => Rec.got_from _ _ _ _ row (hs.recs x hx) hg (fun r e => ⟨Nat.le_trans (Nat.le_refl _) (hr r e).1, (hr r e).2⟩)
  · exact hs.fr.trans (Fr.grown hg) (fun j e => by left; exact .inr (.inr (.inr (hr j e).1)))
theorem Mid.box {D L b0 b1 Bx E : Nat} {w0 : World} {xs : List Rec} {W : World} (h : Mid D L b0 b1 Bx E w0 xs W) (h1 : L ≠ Bx) (h2 : b0 ≠ Bx) (h3 : b1 ≠ Bx) (h4 : Bx < E) (v : Value) : Mid D L b0 b1 Bx E w0 xs (W.setCell ⟨Bx, 0, none⟩ v) := by
  have hf := Fr.setCell W ⟨Bx, 0, none⟩ v
  have hrow : ∀ {e size n : Nat} {u : Value} {ys : List Value}, W.ownsRow E e size u n ys → (W.setCell ⟨Bx, 0, none⟩ v).ownsRow E e size u n ys := fun hr => hf.row hr (fun g e => by have := (hr.lt g e).1; show ¬ (g = Bx); omega)
  refine ⟨hf.blk h.log h1, hf.blk h.one h2, ?_, fun x hx => ⟨hrow (h.recs x hx).1, (h.recs x hx).2⟩, h.sum, ?_⟩
  · obtain ⟨u, a, b⟩ := h.two
    exact ⟨u, hf.blk a h3, hrow b⟩
  · exact h.fr.trans hf (fun j e => by left; have e' : j = Bx := e; exact .inr (.inr (.inl e')))

/-- What walls.Open leaves: the log L, the records' row v (the blocks of both lie in W5, at or beyond w's size), the disk as it was made whole. -/
def Opened (D : Nat) (S : Dk) (fp : Nat → Prop) (w : World) (e : Ending) (w' : World) : Prop :=
  ∃ (L : Nat) (v : Value) (xs : List Rec) (W5 : World) (fp' : Nat → Prop), e = .returned (.tuple #[.pointer (some ⟨L, 0, none⟩), v, .int .i64 0]) ∧ xs.map Rec.pair = parse S.seen ∧ Fr noBlk w W5 ∧ w.heap.size ≤ L ∧
    W5.heap[L]? = some (.cells #[.pointer (some ⟨D, 0, none⟩), .int .i64 (used S.seen : Nat)] 28 (0, 0)) ∧ RecsAt W5 w.heap.size v xs ∧ IsDsk w' D S.opened fp' ∧ Fr fp W5 w' ∧ ∀ k, fp' k → fp k ∨ W5.heap.size ≤ k

set_option maxHeartbeats 2000000 in
theorem open_any (D : Nat) (S : Dk) (fp : Nat → Prop) (w : World) (h : IsDsk w D S fp) (hwt : S.waits.length ≤ 900000000) : Calls Try.prog 9 #[.pointer (some ⟨D, 0, none⟩)] w (Opened D S fp w) := by
  refine (callsIn_wide (n := 3)).1 ?_
  obtain ⟨Post, hPost⟩ : ∃ Post, Post = Opened D S fp w := ⟨_, rfl⟩
  rw [← hPost]
  have hz : ∀ w, (zeroValue 23).run Try.prog w = .ok (.pointer none) w := fun _ => by kernel_rfl
  have hz2 : ∀ w, (zeroValue 34).run Try.prog w = .ok (.slice none 0 0) w := fun _ => by kernel_rfl
  have hfa := (Fr.alloc w (.cells #[.pointer none] 23)).trans (Fr.alloc _ (.cells #[.slice none 0 0] 34)) (fun _ h => h.elim)
  have hd0 := h.fr hfa (fun _ _ => not_noBlk _)
  have HS := Lib.hid (size_any D S fp _ hd0)
  have hlt0 : ∀ k, fp k → k < w.heap.size := by obtain ⟨_, _, _, _, _, h⟩ := h; exact h.lt
  have hok : S.ok := by obtain ⟨_, _, _, _, _, h⟩ := h; exact h.ok
  have hp := hok.pos
  have hm := hok.most
  have hne : ((S.n : Int) == 0) = false := by rw [beq_eq_false_iff_ne]; omega
  refine callsIn_of_wp_marks Try.func9 rfl trivial ?_ rfl
  simp only [Try.ntmps9, List.size_toArray, List.length_cons, List.length_nil, Nat.reduceAdd, Nat.reduceSub, Array.replicate_succ, Array.replicate_zero, List.push_toArray, List.append_toArray, List.nil_append, List.cons_append]
  gi_wp2_with (first | (refine ⟨trivial, ?_⟩; gi_at_call 22; refine (callsIn_wide.2 HS.out).mono ?_; rintro e w' ⟨rfl, rfl⟩))
  obtain ⟨W2, hW2⟩ : ∃ W2, ((w.alloc (.cells #[.pointer none] 23)).alloc (.cells #[.slice none 0 0] 34)) = W2 := ⟨_, rfl⟩
  have hb0 : W2.heap[w.heap.size]? = some (.cells #[.pointer none] 23 (0, 0)) := by rw [← hW2]; exact heap_alloc2_old _ _ _
  have hb1 : W2.heap[w.heap.size + 1]? = some (.cells #[.slice none 0 0] 34 (0, 0)) := by rw [← hW2]; exact heap_alloc2_new _ _ _
  have hs2 : W2.heap.size = w.heap.size + 2 := by rw [← hW2]; simp
  rw [hW2] at hfa hd0 HS ⊢
  clear hW2
  have HS2 := Lib.hid hs2
  clear hs2
  obtain ⟨i0, hi, hz0, hz1, hzb⟩ := info_parts info_u8
  gi_loopw [5, 6, 7, 8, 18] (fun v _ _ _ i wr => ∃ k : Nat, k ≤ S.n ∧ i = .int .i64 k ∧ wr.ownsRow W2.heap.size 5 1 v (k * 64) (bvals (S.seen.take (k * 64))) ∧ Fr noBlk W2 wr) (fun _ _ _ _ i _ => S.n - (intOf i).toNat)
  case atStart =>
    refine ⟨0, by omega, rfl, ?_, Fr.refl _ _⟩
    simp only [Nat.zero_mul, List.take_zero]; exact World.ownsRow_nil _ _ _ _
  case round =>
    obtain ⟨k, hk, rfl, hrow, hfr⟩ := hrel
    by_cases hlt : k < S.n
    · have HR := Lib.hid (read_any D S fp k wr (hd0.fr hfr (fun _ _ => not_noBlk _)) hlt)
      have hsl := Dk.at_length hok k hlt
      have hcat : bvals (S.seen.take (k * 64)) ++ bvals (S.at_ k) = bvals (S.seen.take ((k + 1) * 64)) := by
        rw [← bvals_append]; congr 1; unfold Dk.at_; rw [show (k + 1) * 64 = k * 64 + 64 from by omega, List.take_add]
      have HCAT := Lib.hid hcat
      clear hcat
      gi_wp2_with (first | (refine ⟨trivial, ?_⟩; gi_at_call 23; refine (callsIn_wide.2 HR.out).mono ?_; rintro e w1 ⟨v1, rfl, hown1, hfr1⟩; obtain ⟨a1, cc1, rfl, ha1⟩ := row_slice hown1; obtain ⟨gg1, rfl, hgg1⟩ := ha1.resolve_left (by omega); have hrow1 := hfr1.row hrow (fun _ _ => not_noBlk _); have hfr2 := hfr.trans hfr1 (fun _ h => h.elim); have hsrc1 := hown1.cells rfl) | (gi_at_builtin; refine wpListIn_append_own _ rfl (.tmp 27) (.tmp 28) 22 rfl W2.heap.size 5 i0 (.int .u8 0) 1 1 Try.underlying22 hi hz0 hz1 hzb rfl (by decide) _ (k * 64) (bvals (S.seen.take (k * 64))) rfl hrow1 ⟨gg1, 0, none⟩ 64 cc1 (bvals (S.at_ k)) rfl ?ka ?kb ?kc ?kd ?ke ?kf ?_))
      case ka => rw [bvals_length, hsl]
      case kb => exact hsrc1
      case kc => exact bvals_one _
      case kd => simp only [maxLen]; omega
      case ke => omega
      case kf => exact hfr2.size
      intro v' w2 hown2 hgr2 _
      rw [HCAT.out] at hown2
      have hfr3 : Fr noBlk W2 w2 := hfr2.trans (Fr.grown hgr2) (fun j e => by
        right
        have := hrow1.lt j e
        exact this.1)
      gi_wp2
      refine ⟨⟨k + 1, by omega, by go_num, by rw [show (k + 1) * 64 = k * 64 + 64 from by omega] at hown2 ⊢; exact hown2, hfr3⟩, ?_⟩
      simp [intOf]; omega
    · obtain rfl : k = S.n := by omega
      obtain ⟨wa, hwa⟩ : ∃ x, x = wr := ⟨wr, rfl⟩
      subst hwa
      rw [List.take_of_length_le (by rw [hok.seen]; omega)] at hrow
      obtain ⟨aA, cA, rfl, haA⟩ := row_slice hrow
      obtain ⟨gA, rfl, hgA⟩ := haA.resolve_left (by omega)
      have hb0r := hfr.blk hb0 (not_noBlk _)
      have hb1r := hfr.blk hb1 (not_noBlk _)
      have hf0 := blk_free hb0r 0
      have hc0 : wa.cell? ⟨w.heap.size, 0, none⟩ = some (.pointer none) := blk_cell hb0r 0 rfl
      have hb0lt := blk_lt hb0r
      gi_wp2_with (first | (refine ⟨trivial, ?_⟩; gi_at_call 24; refine (callsIn_wide.2 (found_mk _ _ _ _)).mono ?_; rintro e w1 ⟨rfl, rfl⟩))
      have hLlt : w.heap.size < wa.heap.size := hb0lt
      obtain ⟨W4, hW4⟩ : ∃ W4, (((wa.setCell ⟨w.heap.size, 0, none⟩ (.pointer (some ⟨wa.heap.size, 0, none⟩))).alloc (.cells #[.pointer (some ⟨D, 0, none⟩), .int .i64 0] 28)).alloc (.cells #[.slice (some ⟨gA, 0, none⟩) (S.n * 64) cA] 22)) = W4 := ⟨_, rfl⟩
      have hfa4 : Fr (oneBlk w.heap.size) wa W4 := by rw [← hW4]; exact ((Fr.setCell wa ⟨w.heap.size, 0, none⟩ _).trans (Fr.alloc _ _) (fun _ h => h.elim)).trans (Fr.alloc _ _) (fun _ h => h.elim)
      have h4L : W4.heap[wa.heap.size]? = some (.cells #[.pointer (some ⟨D, 0, none⟩), .int .i64 0] 28 (0, 0)) := by rw [← hW4]; have := heap_alloc2_old (wa.setCell ⟨w.heap.size, 0, none⟩ (.pointer (some ⟨wa.heap.size, 0, none⟩))) (.cells #[.pointer (some ⟨D, 0, none⟩), .int .i64 0] 28) (.cells #[.slice (some ⟨gA, 0, none⟩) (S.n * 64) cA] 22); rwa [World.size_setCell] at this
      have h4B : W4.heap[wa.heap.size + 1]? = some (.cells #[.slice (some ⟨gA, 0, none⟩) (S.n * 64) cA] 22 (0, 0)) := by rw [← hW4]; have := heap_alloc2_new (wa.setCell ⟨w.heap.size, 0, none⟩ (.pointer (some ⟨wa.heap.size, 0, none⟩))) (.cells #[.pointer (some ⟨D, 0, none⟩), .int .i64 0] 28) (.cells #[.slice (some ⟨gA, 0, none⟩) (S.n * 64) cA] 22); rwa [World.size_setCell] at this
      have h4s : W4.heap.size = wa.heap.size + 2 := by rw [← hW4]; simp
      have h40 : W4.heap[w.heap.size]? = some (.cells #[.pointer (some ⟨wa.heap.size, 0, none⟩)] 23 (0, 0)) := by
        rw [← hW4, Below.heap_alloc _ _ _ (by simp; omega), Below.heap_alloc _ _ _ (by simp; omega)]
        exact blk_set hb0r 0 _
      have h41 := hfa4.blk hb1r (show ¬ (w.heap.size + 1 = w.heap.size) by omega)
      have hb1lt := blk_lt hb1r
      have hgAlt : gA < wa.heap.size := by obtain ⟨_, h', _⟩ := row_open hrow; exact blk_lt h'
      have hWs : w.heap.size ≤ W2.heap.size := by have := HS2.out; omega
      have hrow4 := hfa4.row hrow (fun g e => by simp [Value.ownBlock] at e; subst e; show ¬ (gA = w.heap.size); have := HS2.out; omega)
      rw [hW4]
      have HS4 := Lib.hid h4s
      clear h4s hW4
      have hBA : IsB W4 (some ⟨gA, 0, none⟩) S.seen := IsB.of_row hrow4
      refine wpIn_rangeFunc_box (a₁ := ?a1) rfl (by omega) (gf := 34) (lb := #[.pointer (some ⟨wa.heap.size + 1, 0, none⟩)]) rfl trivial (enters_of Try.func34 (by kernel_rfl) rfl)
        (found_box (3 - 1) (fun k => k = w.heap.size + 1 ∨ k = wa.heap.size ∨ W4.heap.size ≤ k) (wa.heap.size + 1) (some ⟨gA, 0, none⟩) S.seen cA W4 (by rw [hok.seen]; omega) ?hc ?hc2 (by rw [hok.seen]; exact h4B) hBA ?hob ?hoa)
        (fun k hk => .inr (.inr hk)) (blk_lt h4B) (Rec.got_from _) (fun _ => rfl)
        (Mid D wa.heap.size w.heap.size (w.heap.size + 1) (wa.heap.size + 1) W4.heap.size W4) (Mid.from _ _ _ _ _ _ _ (Nat.le_refl _)) ?hIB ?h0 ?assign ?body ?done
      case assign =>
        intro l x W K hK
        simp only [Rec.encs]
        gi_wp2
        exact hK
      case hc => obtain ⟨_, _, h', _⟩ := row_open hrow4; rw [hok.seen]; exact h'
      case hc2 => obtain ⟨_, _, _, _, _, h'⟩ := row_open hrow4; simp only [maxLen] at h'; omega
      case hob =>
        have := HS2.out; have := HS4.out
        rintro (h' | h' | h') <;> omega
      case hoa =>
        have := HS2.out; have := HS4.out
        intro x hx; cases hx
        exact ⟨by rintro (h' | h' | h') <;> (simp only at h'; omega), by simp only; omega, by simp only; omega⟩
      case hIB => 
        have := HS2.out; have := HS4.out
        exact fun pre A v h => Mid.box h (by omega) (by omega) (by omega) (by omega) v
      case h0 => exact ⟨h4L, h40, ⟨_, h41, World.ownsRow_nil _ _ _ _⟩, fun _ h => absurd h (by simp), Nat.zero_le _, Fr.refl _ _⟩
      case body =>
        rintro l pre ⟨v, k, r⟩ W hmid hgot hpl hsz
        obtain ⟨a, c, e, ha⟩ := row_slice hgot.1
        change v = .slice a r.length c at e
        subst e
        obtain ⟨vt, hvt, hvr⟩ := hmid.two
        have hct : W.cell? ⟨w.heap.size + 1, 0, none⟩ = some vt := blk_cell hvt 0 rfl
        have hbs : ∀ w, (Instr.buildSlice 34 1 #[(0, .slice a r.length c)]).run Try.prog w = .ok (.slice (some ⟨w.heap.size, 0, none⟩) 1 1) (w.alloc (.cells #[.slice a r.length c] 22)) := fun w => by kernel_rfl
        obtain ⟨i1, hi1, hy0, hy1, hyb⟩ := info_parts info_sl
        gi_wp2_with (gi_at_builtin; refine wpListIn_append_own_at _ rfl (.tmp 39) (.tmp 41) 34 rfl W4.heap.size 22 i1 (.slice none 0 0) 1 24 Try.underlying34 hi1 hy0 hy1 hyb rfl (by decide) _ pre.length (pre.map (·.v)) rfl (hvr.alloc _) ⟨W.heap.size, 0, none⟩ 1 1 [.slice a r.length c] rfl rfl ?ka ?kb ?kc ?kd ?ke ?_)
        case kb => rfl
        case kc => simp only [maxLen]; omega
        case kd => omega
        case ke => exact Nat.le_trans hsz (Nat.le_succ _)
        intro v' w2 hown2 hgr2 _ _
        obtain ⟨a', c', rfl, ha'⟩ := row_slice hown2
        have hS2 := HS2.out
        have hS4 := HS4.out
        have hfg : Fr (fun j => W4.heap.size ≤ j) W w2 := ((Fr.alloc W (.cells #[.slice a r.length c] 22)).mono (fun _ h => h.elim)).trans (Fr.grown hgr2) (fun j e => by left; exact (hvr.lt j e).1)
        have hb1 := hfg.blk hvt (by omega)
        have hb0 := hfg.blk hmid.one (by omega)
        have hbL := hfg.blk hmid.log (by omega)
        have hx1 := blk_set hb1 0 (.slice a' (pre.length + 1) c')
        have hfs := Fr.setCell w2 ⟨w.heap.size + 1, 0, none⟩ (.slice a' (pre.length + 1) c')
        have hx0 := hfs.blk hb0 (show ¬ (w.heap.size = w.heap.size + 1) by omega)
        have hxL := hfs.blk hbL (show ¬ (wa.heap.size = w.heap.size + 1) by omega)
        have f1 := blk_free hb1 0
        have c0 : (w2.setCell ⟨w.heap.size + 1, 0, none⟩ (.slice a' (pre.length + 1) c')).cell? ⟨w.heap.size, 0, none⟩ = some (.pointer (some ⟨wa.heap.size, 0, none⟩)) := blk_cell hx0 0 rfl
        have cL : (w2.setCell ⟨w.heap.size + 1, 0, none⟩ (.slice a' (pre.length + 1) c')).cell? ⟨wa.heap.size, 1, none⟩ = some (.int .i64 (sumk pre : Nat)) := blk_cell hxL 1 rfl
        have c1 : w2.cell? ⟨w.heap.size + 1, 0, none⟩ = some vt := blk_cell hb1 0 rfl
        have fL := blk_free hxL 1
        clear hS2 hS4
        gi_wp2
        have hS2 := HS2.out
        have hS4 := HS4.out
        have hk16 : k ≤ 16000000 := hgot.2
        have hksum := hmid.sum
        have hkw : wrap64 ((sumk pre : Nat) + (k : Int)) = (sumk (pre ++ [⟨.slice a r.length c, k, r⟩]) : Nat) := by
          have e : sumk (pre ++ [⟨.slice a r.length c, k, r⟩]) = sumk pre + k := by simp [sumk]
          rw [e]; unfold wrap64; omega
        rw [hkw]
        have hfl := Fr.setCell (w2.setCell ⟨w.heap.size + 1, 0, none⟩ (.slice a' (pre.length + 1) c')) ⟨wa.heap.size, 1, none⟩ (.int .i64 (sumk (pre ++ [⟨.slice a r.length c, k, r⟩]) : Nat))
        have hno : ∀ {e size n base : Nat} {u : Value} {ys : List Value}, W4.heap.size ≤ base → w2.ownsRow base e size u n ys → ((w2.setCell ⟨w.heap.size + 1, 0, none⟩ (.slice a' (pre.length + 1) c')).setCell ⟨wa.heap.size, 1, none⟩ (.int .i64 (sumk (pre ++ [⟨.slice a r.length c, k, r⟩]) : Nat))).ownsRow base e size u n ys := fun hb h => hfl.row (hfs.row h (fun g e => by have := (h.lt g e).1; show ¬ (g = w.heap.size + 1); omega)) (fun g e => by have := (h.lt g e).1; show ¬ (g = wa.heap.size); omega)
        have hpast : ∀ {size n base : Nat} {u : Value} {ys : List Value}, W.ownsRow base 5 size u n ys → w2.ownsRow base 5 size u n ys := fun h => row_past (h.alloc _) (hvr.alloc _) hgr2 (by decide)
        refine ⟨?q1, ?q2, ?q3⟩
        case q1 => exact (((KeepsOthers.alloc W _).trans (KeepsOthers.of_grownBy hgr2 (keeps_row (hvr.alloc _)))).trans (KeepsOthers.setCell _ _ _)).trans (KeepsOthers.setCell _ _ _)
        case q2 => exact ((hfg.mono (fun j e => .inl (.inr (.inr e)))).trans hfs (fun j e => .inl (.inl e))).trans hfl (fun j e => .inl (.inr (.inl e)))
        case q3 =>
          refine ⟨blk_set hxL 1 _, hfl.blk hx0 (show ¬ (w.heap.size = wa.heap.size) by omega), ⟨_, hfl.blk hx1 (show ¬ (w.heap.size + 1 = wa.heap.size) by omega), ?_⟩, ?_, ?_, ?_⟩
          · rw [List.length_append, List.map_append]; exact hno (Nat.le_refl _) hown2
          · intro x hx
            rcases List.mem_append.1 hx with hx | hx
            · exact ⟨hno (Nat.le_refl _) (hpast (hmid.recs x hx).1), (hmid.recs x hx).2⟩
            · obtain rfl := List.mem_singleton.1 hx
              exact ⟨hno (Nat.le_refl _) (hpast hgot.1), hgot.2⟩
          · simp only [sumk, List.map_append, List.sum_append, List.length_append, List.map_cons, List.map_nil, List.sum_cons, List.sum_nil, List.length_singleton] at hksum ⊢; omega
          · exact (((hmid.fr.trans hfg (fun j e => .inl (.inr (.inr (.inr e))))).trans hfs (fun j e => .inl (.inl e))).trans hfl (fun j e => .inl (.inr (.inl e))))
      case done =>
        intro D' xs W hD hS hmid hdef
        have hused : sumk xs = used S.seen := by
          unfold used sumk; rw [← hS, List.map_map]; rfl
        have hle := used_le S.seen
        rw [← hused, hok.seen] at hle
        have hu : sumk xs ≤ S.n := by omega
        have HU := Lib.hid hused
        clear hused hle
        have hS2 := HS2.out
        have hS4 := HS4.out
        have cb0 : W.cell? ⟨w.heap.size, 0, none⟩ = some (.pointer (some ⟨wa.heap.size, 0, none⟩)) := blk_cell hmid.one 0 rfl
        have cL : W.cell? ⟨wa.heap.size, 1, none⟩ = some (.int .i64 (sumk xs : Nat)) := blk_cell hmid.log 1 rfl
        have hdW : IsDsk W D S fp := ((hd0.fr hfr (fun _ _ => not_noBlk _)).fr hfa4 (fun k hk e => by have := hlt0 k hk; have e' : k = w.heap.size := e; omega)).fr hmid.fr (fun k hk e => by have := hlt0 k hk; rcases e with e | e | e | e <;> omega)
        have hmk : ∀ w, (Instr.makeSlice 22 (.int .i64 64) (.int .i64 64)).run Try.prog w = .ok (.slice (some ⟨w.heap.size, 0, none⟩) 64 64) (w.alloc (.cells (bvals (zeros 64)).toArray 5)) := fun w => make_bytes 64 (by omega) w
        obtain ⟨Z, hZ⟩ : ∃ Z, Z = zeros 64 := ⟨_, rfl⟩
        have hZl : Z.length = 64 := by rw [hZ]; exact List.length_replicate
        have hZp : Z = pad Z := by rw [hZ]; rfl
        rw [← hZ] at hmk
        have HZ := Lib.hid hZ
        clear hZ
        have hf5 := Fr.alloc W (.cells (bvals Z).toArray 5)
        have hnew := heap_alloc_new W (.cells (bvals Z).toArray 5)
        have hsz5 : (W.alloc (.cells (bvals Z).toArray 5)).heap.size = W.heap.size + 1 := by simp
        obtain ⟨W5, hW5⟩ : ∃ W5, W.alloc (.cells (bvals Z).toArray 5) = W5 := ⟨_, rfl⟩
        simp only [hW5] at hf5 hnew hsz5
        have hmk2 := hmk W
        rw [hW5] at hmk2
        clear hW5 hmk
        have cb5 : W5.cell? ⟨w.heap.size, 0, none⟩ = some (.pointer (some ⟨wa.heap.size, 0, none⟩)) := hf5.cell cb0 (not_noBlk _)
        have cL5 : W5.cell? ⟨wa.heap.size, 1, none⟩ = some (.int .i64 (sumk xs : Nat)) := hf5.cell cL (not_noBlk _)
        have hd5 : IsDsk W5 D S fp := hdW.fr hf5 (fun _ _ => not_noBlk _)
        have hzN : IsB W5 (some ⟨W.heap.size, 0, none⟩) Z := IsB.of_bvals hnew
        have hbA5 : IsB W5 (some ⟨gA, 0, none⟩) S.seen := (hBA.fr hmid.fr (fun x hx => by cases hx; rintro (e | e | e | e) <;> (simp only at e; omega))).fr hf5 (fun _ _ => not_noBlk _)
        have HZ5 := Lib.hid hsz5
        clear hS2 hS4 hsz5
        gi_wp2
        gi_loopw [12] (fun i wr2 => ∃ (k : Nat) (fp' : Nat → Prop), sumk xs + k ≤ S.n ∧ i = .int .i64 ((sumk xs + k : Nat) : Int) ∧ IsDsk wr2 D (clearTo S S.seen (sumk xs) k) fp' ∧ (∀ j, fp' j → fp j ∨ W5.heap.size ≤ j) ∧ Fr fp W5 wr2) (fun i _ => S.n - (intOf i).toNat)
        case atStart => exact ⟨0, fp, by omega, rfl, hd5, fun j h => .inl h, Fr.refl _ _⟩
        case round =>
          obtain ⟨k, fp', hk, rfl, hdr, hfp', hfr5⟩ := hrel
          obtain ⟨hCok, hCn, hCw⟩ := clearTo_ok hok S.seen (sumk xs) k hk
          obtain ⟨q, hq⟩ : ∃ q, q = sumk xs + k := ⟨_, rfl⟩
          obtain ⟨C, hC⟩ : ∃ C, C = clearTo S S.seen (sumk xs) k := ⟨_, rfl⟩
          rw [← hC] at hdr hCok hCn hCw
          rw [← hq] at hk ⊢
          have hSr := size_any D _ fp' _ hdr
          rw [hCn] at hSr
          have HSr := Lib.hid hSr
          clear hSr
          have hkq : k ≤ q := by omega
          have HC := Lib.hid hC
          have HQ := Lib.hid hq
          clear hC hq
          by_cases hlt2 : q < S.n
          · obtain ⟨_, _, hcA, _, _, hcM⟩ := row_open hrow4
            simp only [maxLen] at hcM
            have hgf : fp gA → False := fun e => by have := hlt0 _ e; omega
            have hgN : fp W.heap.size → False := fun e => by have := hlt0 _ e; have := hmid.fr.size; have := HS4.out; omega
            obtain ⟨X, hX⟩ : ∃ X, X = (S.seen.drop (q * 64)).take 64 := ⟨_, rfl⟩
            have hl64 : X.length = 64 := by rw [hX, List.length_take, List.length_drop, hok.seen]; omega
            have hAr : IsB wr (some ⟨gA, q * 64, none⟩) X := by
              have := (hbA5.fr hfr5 (fun x hx => by cases hx; exact hgf)).sub (q * 64) 64
              rwa [Nat.zero_add, ← hX] at this
            have HX := Lib.hid hX
            clear hX
            have hNr : IsB wr (some ⟨W.heap.size, 0, none⟩) Z := hzN.fr hfr5 (fun x hx => by cases hx; exact hgN)
            have hWlt : W.heap.size < wr.heap.size := by have := HZ5.out; have := hfr5.size; omega
            have HWR := Lib.hid (write_at D C fp' q (some ⟨W.heap.size, 0, none⟩) Z Z 64 64 wr hdr hNr (fun x hx => by cases hx; exact hWlt) (by omega) (by omega) (by omega) hZl.symm hZp (atI := (q : Int)) rfl)
            have HE := Lib.hid (bytesEq_at gA (q * 64) (cA - q * 64) W.heap.size 0 64 ((q + 1) * 64 - q * 64) 64 X Z wr (by omega) hZl.symm hAr hNr)
            have HST := Lib.hid (show clearTo S S.seen (sumk xs) (k + 1) = if X = Z then C else C.write q Z by rw [clearTo, ← HC.out, ← HQ.out, ← HX.out, ← HZ.out])
            by_cases hz : X = Z
            · rw [if_pos hz] at HST
              simp only [hz, decide_true] at HE
              gi_wp2_with (first | (refine ⟨trivial, ?_⟩; gi_at_call 22; refine (callsIn_wide.2 HSr.out).mono ?_; rintro e w' ⟨rfl, rfl⟩) | (refine ⟨trivial, ?_⟩; gi_at_call 25; refine (callsIn_wide.2 HE.out).mono ?_; rintro e w' ⟨rfl, rfl⟩))
              refine ⟨⟨k + 1, fp', by have := HQ.out; omega, by have := HQ.out; go_num, by rw [HST.out]; exact hdr, hfp', hfr5⟩, ?_⟩
              simp [intOf]; omega
            · rw [if_neg hz] at HST
              simp only [hz, decide_false] at HE
              gi_wp2_with (first | (refine ⟨trivial, ?_⟩; gi_at_call 22; refine (callsIn_wide.2 HSr.out).mono ?_; rintro e w' ⟨rfl, rfl⟩) | (refine ⟨trivial, ?_⟩; gi_at_call 25; refine (callsIn_wide.2 HE.out).mono ?_; rintro e w' ⟨rfl, rfl⟩) | (refine ⟨trivial, ?_⟩; gi_at_call 20; refine (callsIn_wide.2 HWR.out).mono ?_; rintro e w6 ⟨rfl, fp6, hd6, hf6, hs6⟩))
              refine ⟨⟨k + 1, fp6, by have := HQ.out; omega, by have := HQ.out; go_num, by rw [HST.out]; exact hd6, fun j hj => (hs6 j hj).elim (hfp' j) (fun h => .inr (Nat.le_trans hfr5.size h)), hfr5.trans hf6 hfp'⟩, ?_⟩
              simp [intOf]; omega
          · obtain rfl : q = S.n := by omega
            obtain ⟨vt, hvt, hvr⟩ := hmid.two
            have hS2 := HS2.out
            have hS4 := HS4.out
            have hbw0 := (hfr5.blk (hf5.blk hmid.one (not_noBlk _)) (fun e => absurd (hlt0 _ e) (by omega)))
            have hbw1 := (hfr5.blk (hf5.blk hvt (not_noBlk _)) (fun e => absurd (hlt0 _ e) (by omega)))
            have hn0 : ¬ fp w.heap.size := fun e => absurd (hlt0 _ e) (by omega)
            have hn1 : ¬ fp (w.heap.size + 1) := fun e => absurd (hlt0 _ e) (by omega)
            have hp0 : ¬ fp' w.heap.size := fun e => (hfp' _ e).elim hn0 (fun h => by have := HZ5.out; have := hmid.fr.size; omega)
            have hp1 : ¬ fp' (w.heap.size + 1) := fun e => (hfp' _ e).elim hn1 (fun h => by have := HZ5.out; have := hmid.fr.size; omega)
            have hD0 : ¬ (w.heap.size = D') := by omega
            have hD1 : ¬ (w.heap.size + 1 = D') := by omega
            have hnD : ¬ fp D' := fun e => absurd (hlt0 _ e) (by omega)
            have hpD : ¬ fp' D' := fun e => (hfp' _ e).elim hnD (fun h => by have := HZ5.out; have := blk_lt hdef; omega)
            have fin : ∀ w6 w7, IsDsk w6 D C.sync fp' → Fr fp' wr.drew w6 → Fr noBlk w6 w7 → Post (.returned (.tuple #[.pointer (some ⟨wa.heap.size, 0, none⟩), vt, .int .i64 0])) (w7.putObj D' (.deferred none)) := by
              intro w6 w7 hd6 hf6 hf67
              have hE : S.opened = C.sync := by
                unfold Dk.opened; rw [← HU.out, show S.n - sumk xs = k by have := HQ.out; omega, HC.out]
              have hsz5 := HZ5.out
              have hszm := hmid.fr.size
              have hDlt := blk_lt hdef
              have hF45 : Fr noBlk w W5 := (((hfa.trans hfr (fun _ h => h.elim)).trans hfa4 (fun j e => by right; have e' : j = w.heap.size := e; omega)).trans hmid.fr (fun j e => by right; rcases e with e | e | e | e <;> omega)).trans hf5 (fun _ h => h.elim)
              have hd5' := hf5.blk hdef (not_noBlk _)
              have hfo := Fr.putObj (own := fun k => k = D') W5 D' (.deferred none) rfl
              have hx67 : Fr fp' wr w7 := ((Fr.drew wr).mono (fun _ h => h.elim)).trans (hf6.trans hf67 (fun _ h => h.elim)) (fun _ h => .inl h)
              have hsame := hfr5.trans hx67 (fun j e => hfp' j e)
              rw [hPost]
              refine ⟨wa.heap.size, vt, xs, W5.putObj D' (.deferred none), fp', rfl, hS, hF45.trans hfo (fun j e => by right; have e' : j = D' := e; omega), by omega, ?_, ⟨?_, ?_⟩, ?_, ?_, ?_⟩
              · rw [← HU.out]; exact hfo.blk (hf5.blk hmid.log (not_noBlk _)) (show ¬ (wa.heap.size = D') by omega)
              · have h1 := hf5.row (row_base hvr (show w.heap.size ≤ W4.heap.size by omega)) (fun _ _ => not_noBlk _)
                exact hfo.row h1 (row_not h1 hd5')
              · intro x hx
                have h1 := hf5.row (row_base (hmid.recs x hx).1 (show w.heap.size ≤ W4.heap.size by omega)) (fun _ _ => not_noBlk _)
                exact ⟨hfo.row h1 (row_not h1 hd5'), (hmid.recs x hx).2⟩
              · rw [hE]; exact (hd6.fr hf67 (fun _ _ => not_noBlk _)).fr (Fr.putObj (own := fun k => k = D') _ _ _ rfl) (fun j hj e => by have e' : j = D' := e; subst e'; exact hpD hj)
              · exact Fr.putBoth hsame _ _ (by omega)
              · intro j hj; rw [World.putObj_size]; exact hfp' j hj
            clear hS2 hS4
            have c0 : wr.cell? ⟨w.heap.size, 0, none⟩ = some (.pointer (some ⟨wa.heap.size, 0, none⟩)) := blk_cell hbw0 0 rfl
            have c1 : wr.cell? ⟨w.heap.size + 1, 0, none⟩ = some vt := blk_cell hbw1 0 rfl
            obtain ⟨va, vc, rfl, hva⟩ := row_slice hvr
            have HSY := Lib.hid (sync_any D C fp' wr.drew (hdr.fr (Fr.drew _) (fun _ _ => not_noBlk _)))
            gi_wp2_with (first | (refine ⟨trivial, ?_⟩; gi_at_call 22; refine (callsIn_wide.2 HSr.out).mono ?_; rintro e w' ⟨rfl, rfl⟩))
            refine wpIn_norm ?_
            gi_region_with (first | (refine ⟨trivial, ?_⟩; gi_at_call 21; refine (callsIn_wide.2 HSY.out).mono ?_; rintro e w6 ⟨rfl, hd6, hf6⟩; have hx0 := hf6.blk hbw0 hp0; have hx1 := hf6.blk hbw1 hp1; have e0 : w6.cell? ⟨w.heap.size, 0, none⟩ = some (.pointer (some ⟨wa.heap.size, 0, none⟩)) := blk_cell hx0 0 rfl; have e1 : w6.cell? ⟨w.heap.size + 1, 0, none⟩ = some (.slice va xs.length vc) := blk_cell hx1 0 rfl; have z0 := blk_free hx0 0; have z1 := blk_free hx1 0; have hs0 := Fr.setSame hx0; have hx2 := hs0.blk hx1 (not_noBlk _); have e2 : (w6.setCell ⟨w.heap.size, 0, none⟩ (.pointer (some ⟨wa.heap.size, 0, none⟩))).cell? ⟨w.heap.size + 1, 0, none⟩ = some (.slice va xs.length vc) := blk_cell hx2 0 rfl; have z2 := blk_free hx2 0))
            all_goals gi_wp2
            all_goals
              have hK : w6.heap[D']? = some (.deferred (some [])) := hf6.blk (hfr5.blk (hf5.blk hdef (not_noBlk _)) hnD) hpD
              have hsb := Fr.setSame hx2
              obtain ⟨w7, hw7⟩ : ∃ w7, (w6.setCell ⟨w.heap.size, 0, none⟩ (.pointer (some ⟨wa.heap.size, 0, none⟩))).setCell ⟨w.heap.size + 1, 0, none⟩ (.slice va xs.length vc) = w7 := ⟨_, rfl⟩
              have hf67 : Fr noBlk w6 w7 := by rw [← hw7]; exact hs0.trans hsb (fun _ h => h.elim)
              rw [hw7]
              have hK7 := hf67.blk hK (not_noBlk _)
              have hfp := Fr.putObj (own := fun k => k = D') w7 D' (.deferred none) rfl
              have hr0 := hfp.blk (hf67.blk hx0 (not_noBlk _)) hD0
              have hr1 := hfp.blk (hf67.blk hx1 (not_noBlk _)) hD1
              refine ⟨by simp, .inl ⟨_, _, rfl, run_takeDeferred hK7, ?_⟩⟩
              refine ⟨_, results_cct rfl rfl rfl rfl (run_loadVar_log _ _ _ (blk_cell hr0 0 rfl)) (run_loadVar_rows _ _ _ (blk_cell hr1 0 rfl)), ?_⟩
              exact fin _ _ hd6 hf6 hf67
end Go.Proofs.Ytanlgidliflepaa
