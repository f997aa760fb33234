/- A log in use: what is known of it from call to call. Conditions: a log over a disk that is there. -/
import Derived.Test.YtanlgidliflepaaPlain3
import Derived.Test.YtanlgidliflepaaRecs
namespace Go.Proofs.Ytanlgidliflepaa
open Go.RowKit

/-- The lists ls lie from the address a on, in blocks of which 'good' holds. -/
def IsLx (good : Nat → Prop) (w : World) (a : Option Addr) (ls : List (List UInt8)) : Prop :=
  ls = [] ∨ ∃ b off, a = some ⟨b, off, none⟩ ∧ good b ∧ ∀ j (h : j < ls.length), ∃ x c, w.cell? ⟨b, off + j, none⟩ = some (.slice x ls[j].length c) ∧ IsB w x ls[j] ∧ ls[j].length ≤ c ∧ ls[j].length ≤ 140737488355328 ∧ (ls[j] ≠ [] → ∀ y, x = some y → good y.block)
theorem IsLx.isL {good : Nat → Prop} {w : World} {a : Option Addr} {ls : List (List UInt8)} (h : IsLx good w a ls) : IsL w a ls := by
  rcases h with h | ⟨b, off, rfl, _, h⟩
  · exact .inl h
  · exact .inr ⟨b, off, rfl, fun j hj => by obtain ⟨x, c, h1, h2, h3, h4, _⟩ := h j hj; exact ⟨x, c, h1, h2, h3, h4⟩⟩
theorem IsLx.fr {good fp : Nat → Prop} {w w' : World} {a : Option Addr} {ls : List (List UInt8)} (h : IsLx good w a ls) (hf : Fr fp w w') (hn : ∀ k, good k → ¬ fp k) : IsLx good w' a ls := by
  rcases h with h | ⟨b, off, rfl, hb, h⟩
  · exact .inl h
  · exact .inr ⟨b, off, rfl, hb, fun j hj => by obtain ⟨x, c, h1, h2, h3, h4, h5⟩ := h j hj; exact ⟨x, c, hf.cell h1 (hn _ hb), (Classical.em (ls[j] = [])).elim (fun e => .inl e) (fun e => h2.fr hf (fun y hy => hn _ (h5 e y hy))), h3, h4, h5⟩⟩
theorem IsLx.take {good : Nat → Prop} {w : World} {a : Option Addr} {ls : List (List UInt8)} (h : IsLx good w a ls) (k : Nat) : IsLx good w a (ls.take k) := by
  rcases h with rfl | ⟨b, off, rfl, hb, h⟩
  · exact .inl (by simp)
  · refine .inr ⟨b, off, rfl, hb, fun j hj => ?_⟩
    have hj' : j < ls.length := by rw [List.length_take] at hj; omega
    rw [List.getElem_take]; exact h j hj'

theorem got_slice {B : Nat} {x : Rec} {W : World} (h : x.got B W) (_ : x.r.length ≤ 140737488355328) : ∃ a c, x.v = .slice a x.r.length c ∧ IsB W a x.r ∧ x.r.length ≤ c ∧ ∀ y, a = some y → B ≤ y.block ∧ y.block < W.heap.size := by
  have hr := h.1
  obtain ⟨a, c, e, ha⟩ := row_slice hr
  refine ⟨a, c, e, IsB.of_row (e ▸ hr), ?_, ?_⟩
  · rcases hr.2 with ⟨e', h0⟩ | ⟨g, cap, cur, e', _, _, hc, _⟩
    · rw [e'] at e; simp only [Value.slice.injEq] at e; omega
    · rw [e'] at e; simp only [Value.slice.injEq] at e; omega
  · intro y hy
    subst hy
    have := hr.lt y.block (by rw [e]; rfl)
    exact this
theorem recsAt_isL {B : Nat} {W : World} {v : Value} {xs : List Rec} (h : RecsAt W B v xs) (hl : ∀ x ∈ xs, x.r.length ≤ 16384) : ∃ a c, v = .slice a xs.length c ∧ IsLx (fun k => B ≤ k ∧ k < W.heap.size) W a (xs.map (·.r)) ∧ (a = none → xs = []) ∧ xs.length ≤ c := by
  obtain ⟨hr, hg⟩ := h
  obtain ⟨a, c, e, ha⟩ := row_slice hr
  subst e
  refine ⟨a, c, rfl, ?_, ?_, ?_⟩
  · rcases ha with ⟨_, h0⟩ | ⟨g, rfl, hB⟩
    · exact .inl (by rw [List.eq_nil_of_length_eq_zero h0]; rfl)
    · obtain ⟨cur, hgc, _⟩ := row_open hr
      refine .inr ⟨g, 0, rfl, ⟨hB, blk_lt hgc⟩, fun j hj => ?_⟩
      rw [List.length_map] at hj
      have hm := List.getElem_mem hj
      obtain ⟨a1, c1, e1, b1, l1, g1⟩ := got_slice (hg _ hm) (Nat.le_trans (hl _ hm) (by omega))
      have hc := (hr.cells rfl) j (xs[j].v) (by simp [hj])
      have e2 : (⟨g, 0, none⟩ : Addr).add j = ⟨g, 0 + j, none⟩ := by simp [Addr.add]; omega
      rw [e2, e1] at hc
      simp only [List.getElem_map]
      exact ⟨a1, c1, hc, b1, l1, Nat.le_trans (hl _ hm) (by omega), fun _ => g1⟩
  · rintro rfl
    rcases ha with ⟨_, h0⟩ | ⟨g, h0, _⟩
    · exact List.eq_nil_of_length_eq_zero h0
    · cases h0
  · rcases hr.2 with ⟨e', h0⟩ | ⟨g, cap, cur, e', _, _, hc, _⟩
    · simp only [Value.slice.injEq] at e'; omega
    · simp only [Value.slice.injEq] at e'; omega

structure Sess (w0 w : World) (D L at_ : Nat) (S : Dk) (fp : Nat → Prop) (rs : List (List UInt8)) : Prop where
  fr : Fr noBlk w0 w
  dsk : IsDsk w D S fp
  log : IsLog w L D at_
  nL : ¬ fp L
  new : ∀ k, fp k → w0.heap.size ≤ k
  newL : w0.heap.size ≤ L
  holds : Holds S at_ rs
  coh : Coh S
  wl : S.waits.length ≤ at_

theorem IsDsk.lt {w : World} {D : Nat} {S : Dk} {fp : Nat → Prop} (h : IsDsk w D S fp) : ∀ k, fp k → k < w.heap.size := by obtain ⟨_, _, _, _, _, h⟩ := h; exact h.lt
theorem IsDsk.isok {w : World} {D : Nat} {S : Dk} {fp : Nat → Prop} (h : IsDsk w D S fp) : S.ok := by obtain ⟨_, _, _, _, _, h⟩ := h; exact h.ok
theorem Sess.still {w0 w w' : World} {D L at_ : Nat} {S : Dk} {fp : Nat → Prop} {rs : List (List UInt8)} (h : Sess w0 w D L at_ S fp rs) (hf : Fr noBlk w w') : Sess w0 w' D L at_ S fp rs :=
  ⟨h.fr.trans hf (fun _ h => h.elim), h.dsk.fr hf (fun _ _ => not_noBlk _), hf.blk h.log (not_noBlk _), h.nL, h.new, h.newL, h.holds, h.coh, h.wl⟩

/-- What Open tells of a disk whose blocks are new since w0. -/
theorem open_law (w0 : World) (D : Nat) (S : Dk) (fp : Nat → Prop) (w : World) (h : IsDsk w D S fp) (hw : S.waits.length ≤ 4096) (hfr : Fr noBlk w0 w) (hnew : ∀ k, fp k → w0.heap.size ≤ k) :
    Calls Try.prog 9 #[.pointer (some ⟨D, 0, none⟩)] w fun e w' => ∃ L a c rs fp' E S', e = .returned (.tuple #[.pointer (some ⟨L, 0, none⟩), .slice a rs.length c, .int .i64 0]) ∧ parse S.seen = pairs rs ∧ rs.length ≤ c ∧ (a = none → rs = []) ∧
      w.heap.size ≤ L ∧ L < E ∧ E ≤ w'.heap.size ∧ IsLx (fun k => w.heap.size ≤ k ∧ k < E) w' a rs ∧ Sess w0 w' D L (secsAll rs) S' fp' rs ∧ S'.waits = [] ∧ S'.sure = S'.seen ∧ S'.n = S.n ∧ (∀ k, fp' k → fp k ∨ E ≤ k) ∧ Fr fp w w' := by
  have hlt := h.lt
  refine (open_any D S fp w h (by omega)).mono ?_
  rintro e w' ⟨L, v, xs, W5, fp', rfl, hp, hf5, hL, hlog, hrec, hd, hf, hs⟩
  obtain ⟨rs, hp2, hh, h1, h2, h3⟩ := opened_all h.isok
  have hxs : xs.map (·.r) = rs := by
    have := congrArg (List.map Prod.fst) (hp.trans hp2)
    simpa [pairs, Rec.pair, Function.comp_def] using this
  have hfit : ∀ x ∈ xs, x.r.length ≤ 16384 := fun x hx => hh.fit _ (hxs ▸ List.mem_map_of_mem hx)
  obtain ⟨a, c, rfl, hI, ha, hc⟩ := recsAt_isL hrec hfit
  rw [hxs] at hI
  have hlen : xs.length = rs.length := by rw [← hxs, List.length_map]
  have hu := used_pairs hp2
  have hE : w.heap.size ≤ W5.heap.size := hf5.size
  have hfw : Fr fp w w' := (hf5.mono (fun _ h => h.elim)).trans hf (fun _ h => .inl h)
  have hnf : ∀ k, fp k → ¬ w.heap.size ≤ k := fun k hk => by have := hlt k hk; omega
  have hLlt := blk_lt hlog
  have hn : ∀ k, fp' k → k < w.heap.size ∨ W5.heap.size ≤ k := fun k hk => (hs k hk).imp (hlt k) id
  rw [hlen]
  refine ⟨L, a, c, rs, fp', W5.heap.size, S.opened, rfl, hp2, by omega, fun e => by rw [← hxs, ha e]; rfl, hL, hLlt, hf.size, hI.fr hf (fun k hk e => hnf k e hk.1), ⟨?_, hd, ?_, ?_, ?_, ?_, ?_, rfl, ?_⟩, h2, h1, h3, hs, hfw⟩
  · exact hfr.trans hfw (fun j hj => .inr (hnew j hj))
  · have := hf.blk hlog (fun e => hnf L e hL); rw [hu] at this; exact this
  · exact fun e => by rcases hn L e with h | h <;> omega
  · intro k hk; rcases hs k hk with h | h
    · exact hnew k h
    · have := hfr.size; omega
  · have := hfr.size; omega
  · rw [← hu]; exact hh
  · rw [h2]; exact Nat.zero_le _

theorem add_law {w0 w : World} {D L at_ : Nat} {S : Dk} {fp : Nat → Prop} {rs : List (List UInt8)} (h : Sess w0 w D L at_ S fp rs) (a : Option Addr) (r : List UInt8) (n c : Nat) (hn : n = r.length) (hb : IsB w a r) (hl : r.length ≤ 16384) (hf : at_ + secs r.length ≤ S.n) :
    Calls Try.prog 6 #[.pointer (some ⟨L, 0, none⟩), .slice a n c] w fun e w' => e = .returned (.int .i64 0) ∧ ∃ fp', Sess w0 w' D L (at_ + secs r.length) (S.add at_ r) fp' (rs ++ [r]) ∧ Fr (fun k => fp k ∨ k = L) w w' ∧ ∀ k, fp' k → fp k ∨ w.heap.size ≤ k := by
  subst hn
  have hm := h.dsk.isok.most
  have hle := h.holds.le
  have hwl := h.wl
  refine (add_any L D at_ S fp a r c w h.log h.dsk h.nL hl hb hf (by omega)).mono ?_
  rintro e w' ⟨rfl, fp', hd, hlog, hfr, hs⟩
  have hfl := frame_length r
  obtain ⟨_, _, h3⟩ := addTo_ok h.dsk.isok at_ (frame r) (secs r.length) hf (by omega)
  refine ⟨rfl, fp', ⟨?_, hd, hlog, ?_, ?_, h.newL, h.holds.add r hl hf, h.coh.addTo _ _ _, ?_⟩, hfr, hs⟩
  · exact h.fr.trans hfr (fun j hj => .inr (hj.elim (h.new j) (fun e => e ▸ h.newL)))
  · exact fun e => (hs L e).elim h.nL (fun h' => by have := blk_lt h.log; omega)
  · exact fun k hk => (hs k hk).elim (h.new k) (fun h' => Nat.le_trans h.fr.size h')
  · show (addTo S at_ (frame r) (secs r.length)).waits.length ≤ _; omega

theorem force_law {w0 w : World} {D L at_ : Nat} {S : Dk} {fp : Nat → Prop} {rs : List (List UInt8)} (h : Sess w0 w D L at_ S fp rs) :
    Calls Try.prog 7 #[.pointer (some ⟨L, 0, none⟩)] w fun e w' => e = .returned (.int .i64 0) ∧ Sess w0 w' D L at_ S.sync fp rs ∧ Fr fp w w' := by
  refine (force_any L D at_ S fp w h.log h.dsk).mono ?_
  rintro e w' ⟨rfl, hd, hf⟩
  exact ⟨rfl, ⟨h.fr.trans hf (fun j hj => .inr (h.new j hj)), hd, hf.blk h.log h.nL, h.nL, h.new, h.newL, h.holds.sync, Coh.sync S, Nat.zero_le _⟩, hf⟩

theorem full_law {w0 w : World} {D L at_ : Nat} {S : Dk} {fp : Nat → Prop} {rs : List (List UInt8)} (h : Sess w0 w D L at_ S fp rs) (a : Option Addr) (r : List UInt8) (n c : Nat) (hn : n = r.length) (hb : IsB w a r) (hl : r.length ≤ 16384) (hf : S.n < at_ + secs r.length) :
    Calls Try.prog 6 #[.pointer (some ⟨L, 0, none⟩), .slice a n c] w fun e w' => e = .returned (.int .i64 5) ∧ Sess w0 w' D L at_ S fp rs ∧ Fr noBlk w w' := by
  subst hn
  refine (add_full L D at_ S fp a r c w h.log h.dsk h.holds.le hl hb hf).mono ?_
  rintro e w' ⟨rfl, hf⟩
  exact ⟨rfl, h.still hf, hf⟩
theorem new_law (n : Nat) (w : World) (h1 : 1 ≤ n) (h2 : n ≤ 4096) {nI : Int} (hI : nI = n) : Calls Try.prog 12 #[.int .i64 nI] w fun e w' => ∃ D S fp, e = .returned (.tuple #[.pointer (some ⟨D, 0, none⟩), .int .i64 0]) ∧ IsDsk w' D S fp ∧ S.n = n ∧ S.waits = [] ∧ parse S.seen = pairs [] ∧ (∀ k, fp k → w.heap.size ≤ k) ∧ Fr noBlk w w' := by
  subst hI
  refine (newD_any n w h1 h2).mono ?_
  rintro e w' ⟨D, rfl, hd, hf⟩
  exact ⟨D, newDk n, _, rfl, hd, rfl, rfl, (by show parse (zeros (n * 64)) = []; exact parse_zeros _), fun k hk => hk.1, hf⟩
theorem pairs_inj {a b : List (List UInt8)} (h : pairs a = pairs b) : a = b := by
  have := congrArg (List.map Prod.fst) h
  simpa [pairs, Function.comp_def] using this
theorem newDk_coh (n : Nat) : Coh (newDk n) := rfl
theorem newDk_parse (n : Nat) : parse (newDk n).seen = pairs [] := by show parse (zeros (n * 64)) = []; exact parse_zeros _
end Go.Proofs.Ytanlgidliflepaa
