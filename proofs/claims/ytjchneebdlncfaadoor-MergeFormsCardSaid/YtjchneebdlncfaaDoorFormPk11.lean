/-
  Decode OF A BATCH: the closure that recovers, and Decode's contract.
  RECORDS, READ: what Unseal answers, as a function on bytes; its contract and the reference's.
  FRAMES, READ: what DecodePiece and DecodeWants answer, as functions on bytes; contracts of merge's.
  THE DOCUMENT'S READING OF A BATCH: contracts of keys, one, Decode.
  FRAMES' LAWS, the small functions: sameTx, sameBatch, SamePiece, sameBytes, sameWants.
  FRAMES' LAWS: Copy, handed, wide; what is decoded is small.
  FRAMES' LAW: MergeFrames answers true.
  BATCHES, THERE AND BACK: what is encoded is decoded to what it was, what is decoded was encoded so.
  RECORDS, THERE AND BACK: what is sealed is unsealed, what is unsealed was sealed; the check sum tells a byte that is changed.
  A BYTE THAT IS CHANGED IS TOLD: the check sum's step is one to one.
  Own work. No macro, syntax, notation, axiom.
-/
import Derived.Test.YtjchneebdlncfaaDoorFormPk10
import Derived.Test.YtjchneebdlncfaaDoorFormPk4
import Derived.Test.YtjchneebdlncfaaDoorFormPk6
import Derived.Test.YtjchneebdlncfaaDoorFormPk9
import Derived.Test.YtjchneebdlncfaaDoorFormPk7
import Derived.Test.YtjchneebdlncfaaDoorFormPk3
import Derived.Test.YtjchneebdlncfaaDoorProg
namespace Go.Proofs.YtjchneebdlncfaaDoor.Lib
open Go Den Fn
open Go.RowKit (Below)
open Classical
set_option maxRecDepth 8000
set_option maxHeartbeats 4000000
theorem brk_assert (x y : Value) (w : World) : Sem.run Tryd.prog (Instr.typeAssert (.iface 141 (.agg #[x, y])) 20 141 true) w = .ok (.tuple #[.agg #[x, y], .bool true]) w := by kernel_rfl
theorem nilQ_nil (K : Bool → Prop) : nilQ 4 .nilIface K = K true := rfl
theorem nilQ_iface (t : TypeId) (u : Value) (K : Bool → Prop) : nilQ 4 (.iface t u) K = K false := rfl
/-- The closure, where nothing was wrong. -/
theorem dfr_calm (w : World) (a0 a1 a2 : Option Addr) {m : Nat} {R : Ending → FrameMode → World → Prop} (hR : R (.returned (.tuple #[])) .returning w) :
    CallsDIn (Fr none) m Tryd.prog 78 #[.pointer a0, .pointer a1, .pointer a2] .returning w R := by
  refine c78 _ _ _ ?_
  rw [show recQ .returning = (.nilIface, .returning) from rfl]
  unfold d78
  rw [nilQ_nil, Bool.not_true, cond_false]
  exact hR
/-- The closure, where a reading gave up. -/
theorem dfr_rec (w : World) (b0 b1 b2 : Nat) {v0 v1 v2 : Value} (h0 : Blk w b0 [v0]) (h1 : Blk w b1 [v1]) (h2 : Blk w b2 [v2]) (h01 : b0 ≠ b1) (h02 : b0 ≠ b2) (h12 : b1 ≠ b2) (p : Nat) (e : Int) {m : Nat} {R : Ending → FrameMode → World → Prop}
    (hR : ∀ w', Blk w' b0 [.slice none 0 0] → Blk w' b1 [.int .i64 p] → Blk w' b2 [.int .i64 e] → Tch [b0, b1, b2] w w' → R (.returned (.tuple #[])) (.panicking [⟨.iface 141 (.agg #[.int .i64 (p : Int), .int .i64 e]), true, false⟩]) w') :
    CallsDIn (Fr none) m Tryd.prog 78 #[.pointer (some ⟨b0, 0, none⟩), .pointer (some ⟨b1, 0, none⟩), .pointer (some ⟨b2, 0, none⟩)] (.panicking (brk p e)) w R := by
  refine c78 _ _ _ ?_
  rw [show recQ (.panicking (brk p e)) = (.iface 141 (.agg #[.int .i64 (p : Int), .int .i64 e]), .panicking [⟨.iface 141 (.agg #[.int .i64 (p : Int), .int .i64 e]), true, false⟩]) from rfl]
  unfold d78
  rw [nilQ_iface, Bool.not_false, cond_true]
  refine ⟨_, _, brk_assert _ _ w, _, rfl, ?_⟩
  refine ⟨_, rfl, _, rfl, ?_⟩
  show ∀ w11 : World, w11 = World.alloc w _ → Array.size (List.toArray [Value.int .i64 (p : Int), .int .i64 e]) = 2 ∧ _
  refine var_init (n := 2) (by rw [zcBroken]; rfl) rfl (by simp [one]) fun w11 w12 kf t12 s12 => ?_
  have l0 := h0.lt
  have l1 := h1.lt
  have l2 := h2.lt
  obtain ⟨fb, hfb⟩ : ∃ fb, w.heap.size = fb := ⟨_, rfl⟩
  rw [hfb] at kf s12 l0 l1 l2
  rw [hfb]
  refine ⟨fun u => u = w12, by rw [Bool.not_true, cond_false], ?_⟩
  rintro w14 rfl w15 rfl
  replace kf := kf.drew
  have td := t12.trans (Tch.refl [] w14).drew (by simp)
  replace h0 := h0.tch td (by simp)
  replace h1 := h1.tch td (by simp)
  replace h2 := h2.tch td (by simp)
  generalize w14.drew = w15 at *
  refine ⟨_, by rw [add_mk]; exact kf.cell 0, _, by rw [add_mk]; exact kf.cell 1, ?_⟩
  refine put_cell' (o := 0) h0 (by simp) rfl fun w19 k0 t19 _ => ?_
  have kf19 := kf.tch t19 (by simp; omega)
  refine ⟨⟨_, by rw [add_mk]; exact kf19.cell 1, rfl, rfl⟩, ⟨_, by rw [add_mk]; exact kf19.cell 0, rfl, rfl⟩, ?_⟩
  refine put_cell' (o := 0) (h1.tch t19 (by simp; omega)) (by simp) rfl fun w23 k1 t23 _ => ?_
  have kf23 := kf19.tch t23 (by simp; omega)
  refine ⟨⟨_, by rw [add_mk]; exact kf23.cell 1, rfl, rfl⟩, ?_⟩
  refine put_cell' (o := 0) ((h2.tch t19 (by simp; omega)).tch t23 (by simp; omega)) (by simp) rfl fun w26 k2 t26 _ => ?_
  refine hR w26 ((k0.tch t23 (by simp; omega)).tch t26 (by simp; omega)) (k1.tch t26 (by simp; omega)) k2 ?_
  have g0 : Tch [b0, b1, b2] w w15 := td.weaken (by simp)
  exact ((g0.trans t19 (by simp)).trans t23 (by simp)).trans t26 (by simp)

theorem zcTxs' : zc Tryd.prog 35 = [.slice none 0 0] := by kernel_rfl
theorem zcInt' : zc Tryd.prog 3 = [.int .i64 0] := by kernel_rfl
theorem zcErr' : zc Tryd.prog 40 = [.int .i64 0] := by kernel_rfl
theorem zcRd' : zc Tryd.prog 144 = [.pointer none] := by kernel_rfl
theorem decode_c (w : World) (bs : List Int) (xa : Option Addr) (n xc : Nat) (hr : RSl w 1 xa n xc (u8 bs)) (hBy : Bytes bs) (hN : n ≤ 140737488355328) :
    Calls Tryd.prog 43 #[.slice xa n xc] w (DecO w (decS bs)) := by
  refine c43 _ _ _ ?_
  unfold d43
  rintro w1 rfl w2 rfl w3 rfl
  refine ⟨rfl, ⟨_, Tryd.func78, by kernel_rfl, by kernel_rfl⟩, ?_⟩
  have k0 : Blk _ _ [.slice none 0 0] := Blk.fresh w (cs := zc Tryd.prog 35) 35 zcTxs'
  have t1 := (Tch.refl [] w).alloc (.cells (zc Tryd.prog 35).toArray 35)
  have s1 := size_alloc w (.cells (zc Tryd.prog 35).toArray 35)
  generalize w.alloc (.cells (zc Tryd.prog 35).toArray 35) = w1 at *
  have k1 : Blk _ _ [.int .i64 0] := Blk.fresh w1 (cs := zc Tryd.prog 3) 3 zcInt'
  have t2 := (Tch.refl [] w1).alloc (.cells (zc Tryd.prog 3).toArray 3)
  have s2 := size_alloc w1 (.cells (zc Tryd.prog 3).toArray 3)
  generalize w1.alloc (.cells (zc Tryd.prog 3).toArray 3) = w2 at *
  have k2 : Blk _ _ [.int .i64 0] := Blk.fresh w2 (cs := zc Tryd.prog 40) 40 zcErr'
  have t3 := (Tch.refl [] w2).alloc (.cells (zc Tryd.prog 40).toArray 40)
  have s3 := size_alloc w2 (.cells (zc Tryd.prog 40).toArray 40)
  generalize w2.alloc (.cells (zc Tryd.prog 40).toArray 40) = w3 at *
  obtain ⟨b0, hb0⟩ : ∃ b, w.heap.size = b := ⟨_, rfl⟩
  obtain ⟨b1, hb1⟩ : ∃ b, w1.heap.size = b := ⟨_, rfl⟩
  obtain ⟨b2, hb2⟩ : ∃ b, w2.heap.size = b := ⟨_, rfl⟩
  rw [hb0] at k0 s1
  rw [hb1] at k1 s2 s1
  rw [hb2] at k2 s3 s2
  rw [hb0, hb1, hb2]
  replace k0 := (k0.tch t2 (by simp)).tch t3 (by simp)
  replace k1 := k1.tch t3 (by simp)
  have t := (t1.trans t2 (by simp)).trans t3 (by simp)
  clear t1 t2 t3 hb1 hb2
  -- the ways out
  have bad : ∀ (u : World) (v0 : Value) (p : Nat) (e : Int), e ≠ 0 → decS bs = ([], p, e) → Blk u b0 [v0] → Blk u b1 [.int .i64 0] → Blk u b2 [.int .i64 0] → Tch [] w u →
      outD Tryd.prog 78 #[.pointer (some ⟨b0, 0, none⟩), .pointer (some ⟨b1, 0, none⟩), .pointer (some ⟨b2, 0, none⟩)] (.panicking (brk p e)) u (outK r43 (DecO w (decS bs)) [(2, .pointer (some ⟨b0, 0, none⟩)), (3, .pointer (some ⟨b1, 0, none⟩)), (4, .pointer (some ⟨b2, 0, none⟩))]) := by
    intro u v0 p e he hd h0 h1 h2 tu
    refine dfr_rec u b0 b1 b2 h0 h1 h2 (by omega) (by omega) (by omega) p e fun w' g0 g1 g2 tw => ?_
    refine ⟨none, 0, 0, g0.cell 0, p, g1.cell 0, e, g2.cell 0, ?_⟩
    rw [hd]
    refine ⟨tu.trans tw fun k hk => .inr ?_, none, 0, 0, rfl, ?_⟩
    · simp at hk
      omega
    · rw [if_pos he]; exact ⟨rfl, rfl, rfl⟩
  refine (read_c w3 bs xa n xc (hr.tch t (fun _ _ h => by cases h)) hBy hN).mono ?_
  rintro en w5 ⟨b, a, c, rfl, hRd, t5, hbge, hage⟩
  have hlen := hRd.len
  have k05 := k0.tch t5 (by simp)
  have k15 := k1.tch t5 (by simp)
  have k25 := k2.tch t5 (by simp)
  replace t := t.trans t5 (by simp)
  clear k0 k1 k2 t5
  have hbl := hRd.blk.lt
  refine ⟨_, rfl, [.pointer (some ⟨b, 0, none⟩)], by rw [zcRd']; rfl, ?_⟩
  refine var_init (n := 1) (by rw [zcRd']; rfl) rfl (by simp [one]) fun w8 w9 kr t9 s9 => ?_
  obtain ⟨rb, hrb⟩ : ∃ rb, w5.heap.size = rb := ⟨_, rfl⟩
  rw [hrb] at kr s9 hbl
  rw [hrb]
  replace hRd := hRd.quiet t9
  replace t := t.trans t9 (by simp)
  have k09 := k05.tch t9 (by simp)
  have k19 := k15.tch t9 (by simp)
  have k29 := k25.tch t9 (by simp)
  have tw : ∀ {u : World}, Tch [b] w9 u → Tch [] w u := fun hh => t.trans hh fun k hk => .inr (by simp at hk; omega)
  clear k05 k15 k25 t9
  refine get_all kr rfl ?_
  refine (bupto_c w9 b n c 0 a bs 64 (by omega) hRd).mono ?_
  rintro en w12 ⟨hen, hR⟩
  have hle := rUpto_le (most := 64) (e := 0) hBy (p := 0) (by omega)
  have hdec : decS bs = dec1 bs (rUpto bs 64 0 0) := rfl
  generalize hu : rUpto bs 64 0 0 = u1 at *
  have far : ∀ {u u' : World} {cs : List Value} {k : Nat}, Blk u k cs → Tch [b] u u' → k ≠ b → Blk u' k cs := fun h ht hk => h.tch ht (by simpa using hk)
  have k012 := far k09 hR.2 (by omega)
  have k112 := far k19 hR.2 (by omega)
  have k212 := far k29 hR.2 (by omega)
  have kr12 := far kr hR.2 (by omega)
  have t12 : Tch [] w w12 := t.trans hR.2 fun k hk => .inr (by simp at hk; omega)
  by_cases he : u1.2.2 ≠ 0
  · rw [if_pos he] at hen
    rw [hen]
    refine bad w12 _ 0 u1.2.2 he ?_ k012 k112 k212 t12
    rw [hdec]
    unfold dec1
    rw [if_pos he]
    have : u1.2.1 = 0 := by rw [← hu] at he ⊢; exact (rUpto_err he).2
    rw [show u1.2 = (u1.2.1, u1.2.2) from rfl, this]
  rw [if_neg he] at hen
  rw [hen]
  have he0 : u1.2.2 = 0 := by simpa using he
  rw [show u1.2 = (u1.2.1, 0) from Prod.ext rfl he0] at hR
  have hdec2 : decS bs = dec2 bs (txsS bs u1.1 u1.2.1 []) := by rw [hdec]; unfold dec1; rw [if_neg he]
  clear hen he he0 k09 k19 k29 kr t
  generalize hp1 : u1.2.1 = p1 at *
  refine ⟨_, rfl, fun m x u => ∃ (q p' : Nat) (acc : List Tx) (la : Option Addr) (lc : Nat), x = q ∧ q ≤ u1.1 ∧ m = u1.1 - q ∧ acc.length = q ∧ Rd u b a n c bs p' 0 ∧ Tch [] w u ∧ Blk u rb [Value.pointer (some ⟨b, 0, none⟩)] ∧ Blk u b0 [.slice la q lc] ∧ Blk u b1 [.int .i64 0] ∧ Blk u b2 [.int .i64 0] ∧ Grows (rb + 1) u la q lc acc ∧ txsS bs u1.1 p1 [] = txsS bs (u1.1 - q) p' acc,
    ⟨u1.1, 0, p1, [], none, 0, rfl, by omega, rfl, rfl, hR.1, t12, kr12, k012, k112, k212, Grows.nil _ _, rfl⟩, ?_⟩
  clear hR k012 k112 k212 kr12
  rintro m w16 x ⟨q, p', acc, la, lc, rfl, hq, rfl, hal, hR, ht, kr, k0, k1, k2, hG, hk⟩
  have hrow := hG.row
  have hk0 := k0.lt
  have hs16 := ht.size
  have hbw : w.heap.size ≤ b := by have := hRd.blk.lt; omega
  by_cases hlt : q < u1.1
  · rw [bif_pos (by omega)]
    obtain ⟨r, hr⟩ : ∃ r, u1.1 - q = r + 1 := ⟨u1.1 - q - 1, by omega⟩
    rw [hr] at hk
    have hkS : txsS bs (r + 1) p' acc = if (txS bs p').2.2 ≠ 0 then ([], (txS bs p').2.1, (txS bs p').2.2) else txsS bs r (txS bs p').2.1 (acc ++ [(txS bs p').1]) := rfl
    rintro w18 rfl
    have td := (Tch.refl [] w16).drew
    have hR18 := hR.quiet td
    have ht18 := ht.trans td (by simp)
    have kr18 := kr.tch td (by simp)
    have k018 := k0.tch td (by simp)
    have k118 := k1.tch td (by simp)
    have k218 := k2.tch td (by simp)
    have hG18 := hG.quiet td
    have s18 := td.size
    generalize w16.drew = w18 at *
    refine ⟨la, q, lc, k018.cell 0, get_all kr18 rfl ?_⟩
    refine (tx_c w18 b n c p' a bs hR18).mono ?_
    rintro en w22 hT
    have hok := txS_ok hBy (p := p') (by have := hR18.le; have := hR18.len; omega)
    unfold TxO at hT
    generalize hTx : txS bs p' = T at *
    by_cases he : T.2.2 ≠ 0
    · rw [if_pos he] at hT
      rw [hT.1]
      have t22 : Tch [] w w22 := ht18.trans hT.2 fun k hk => .inr (by simp at hk; omega)
      refine bad w22 _ T.2.1 T.2.2 he ?_ (far k018 hT.2 (by omega)) (far k118 hT.2 (by omega)) (far k218 hT.2 (by omega)) t22
      rw [hdec2, hk, hkS, if_pos he]
      unfold dec2
      rw [if_pos he]
    rw [if_neg he] at hT
    obtain ⟨hR22, v, rfl, hv⟩ := hT
    have he0 : T.2.2 = 0 := by simpa using he
    rw [show T.2 = (T.2.1, 0) from Prod.ext rfl he0] at hR22
    have k022 := far k018 hR22.2 (by omega)
    have k122 := far k118 hR22.2 (by omega)
    have k222 := far k218 hR22.2 (by omega)
    have kr22 := far kr18 hR22.2 (by omega)
    have ht22 : Tch [] w w22 := ht18.trans hR22.2 fun k hk => .inr (by simp at hk; omega)
    refine ⟨_, rfl, ⟨la, q, lc, k022.cell 0, rfl, rfl⟩, ?_⟩
    have hsB : ∀ z ∈ [b], z < rb + 1 := fun z hz => by simp at hz; omega
    have s22 := hR22.2.size
    have h64 := hle.2.2
    have hnb : rb + 1 ≤ w18.heap.size := by have := kr18.lt; omega
    have key := hG18.push (K := fun x30 x30n x30c w29 => one (.slice x30 x30n x30c) = true ∧ Option.isSome (World.cell? w29 ⟨b0, 0, none⟩) = true ∧ World.frozen? w29 ⟨b0, 0, none⟩ = false ∧
        ∀ w31 : World, w31 = World.setCell w29 ⟨b0, 0, none⟩ (.slice x30 x30n x30c) → ∃ m32, m32 < u1.1 - q ∧ ∃ (q' p' : Nat) (acc : List Tx) (la : Option Addr) (lc : Nat), IntKind.wrap .i64 ((q : Int) + 1) = q' ∧ q' ≤ u1.1 ∧ m32 = u1.1 - q' ∧ acc.length = q' ∧ Rd w31 b a n c bs p' 0 ∧ Tch [] w w31 ∧ Blk w31 rb [Value.pointer (some ⟨b, 0, none⟩)] ∧ Blk w31 b0 [.slice la q' lc] ∧ Blk w31 b1 [.int .i64 0] ∧ Blk w31 b2 [.int .i64 0] ∧ Grows (rb + 1) w31 la q' lc acc ∧ txsS bs u1.1 p1 [] = txsS bs (u1.1 - q') p' acc)
      hR22.2 hsB (v := v) (y := T.1) hv hnb (by omega) (z := zrep (zc Tryd.prog 76) (1 * 4)) (by rw [zcTx']; rfl) ?_
    · obtain ⟨cs, hcs, hrun⟩ := key
      refine ⟨cs, hcs, fun w26 hw => ⟨?_, hrun w26 hw⟩⟩
      refine ⟨la, q, lc, ?_, rfl, rfl⟩
      rw [hw]
      exact (k022.tch ((Tch.refl [] w22).alloc _) (by simp)).cell 0
    · intro a' c' w' hG' t' hge
      have hf : ∀ {k : Nat}, k < rb + 1 → k ∉ rowL la := fun hk hm => by have := hge _ hm; omega
      have k029 := k022.tch t' (hf (by omega))
      refine ⟨rfl, by rw [k029.cell]; rfl, k029.frozen _, ?_⟩
      rintro w31 rfl
      have t31 : Tch [b0] w' (World.setCell w' ⟨b0, 0, none⟩ (.slice a' (q + 1) c')) := (Tch.refl [b0] w').setCell (p := ⟨b0, 0, none⟩) (.inl (by simp)) _
      refine ⟨r, by omega, q + 1, T.2.1, acc ++ [T.1], a', c', by rw [wrap_i64 (by omega) (by omega)]; omega, by omega, by omega, by simp [hal], ?_, ?_, ?_, k029.set 0 _, ?_, ?_, ?_, ?_⟩
      · refine (hR22.1.tch t' (hf (by omega)) ?_).tch t31 (by simp; omega) ?_
        · rcases hRd.row.low (by omega) with hl0 | hl0
          · exact .inl hl0
          · exact .inr fun z hz hm => hf (by have := hl0 z hz; omega) hm
        · refine .inr fun z hz hm => ?_
          simp only [List.mem_singleton] at hm
          have := hage z hz
          omega
      · exact (ht22.trans t' fun k hk => .inr (by have := hge k hk; omega)).trans t31 fun k hk => .inr (by simp at hk; omega)
      · exact (kr22.tch t' (hf (by omega))).tch t31 (by simp; omega)
      · exact (k122.tch t' (hf (by omega))).tch t31 (by simp; omega)
      · exact (k222.tch t' (hf (by omega))).tch t31 (by simp; omega)
      · exact hG'.tch t31 fun z hz => .inl (by simp at hz; omega)
      · rw [hk, hkS, if_neg he, show u1.1 - (q + 1) = r by omega]
  rw [bif_neg (by omega)]
  have hq0 : u1.1 - q = 0 := by omega
  rw [hq0] at hk
  have hks : txsS bs u1.1 p1 [] = (acc, p', 0) := hk
  refine ⟨_, by rw [add_mk]; exact kr.cell 0, ?_⟩
  refine (leftR_c w16 b n c p' a bs 0 hR).mono ?_
  rintro en w36 ⟨rfl, t36⟩
  refine ⟨_, rfl, ?_⟩
  have ht36 := ht.trans t36 (by simp)
  have kr36 := kr.tch t36 (by simp)
  have k036 := k0.tch t36 (by simp)
  have k136 := k1.tch t36 (by simp)
  have k236 := k2.tch t36 (by simp)
  have hG36 := hG.quiet t36
  have hR36 := hR.quiet t36
  have s36 := t36.size
  by_cases hl : p' < n
  · rw [bif_pos (by omega)]
    refine ⟨_, by rw [add_mk]; exact kr36.cell 0, ?_⟩
    refine (atR_c w36 b n c p' a bs 0 hR36).mono ?_
    rintro en w40 ⟨rfl, hw⟩
    rw [hw]
    refine ⟨_, rfl, [.int .i64 p', .int .i64 11], by rw [zcBroken]; rfl, ⟨_, _, rfl⟩, ?_⟩
    refine bad w36 _ p' 11 (by simp) ?_ k036 k136 k236 ht36
    rw [hdec2, hks]
    unfold dec2
    rw [if_neg (by simp), if_pos (by show p' < bs.length; omega)]
  · rw [bif_neg (by omega)]
    have hd : decS bs = (acc, 0, 0) := by
      rw [hdec2, hks]
      unfold dec2
      rw [if_neg (by simp), if_neg (by show ¬ p' < bs.length; omega)]
    refine ⟨la, q, lc, k036.cell 0, rfl, by rw [k036.cell]; rfl, k036.frozen _, ?_⟩
    rintro w44 rfl
    have t44 := (Tch.refl [b0] w36).setCell (p := ⟨b0, 0, none⟩) (.inl (by simp)) (.slice la q lc)
    have g0 : Blk (w36.setCell ⟨b0, 0, none⟩ (.slice la q lc)) b0 [.slice la q lc] := k036.set 0 _
    have g1 := k136.tch t44 (by simp; omega)
    have g2 := k236.tch t44 (by simp; omega)
    have hG44 := hG36.tch t44 fun z hz => .inl (by simp at hz; have := kr36.lt; omega)
    generalize w36.setCell ⟨b0, 0, none⟩ (.slice la q lc) = w44 at *
    refine ⟨rfl, by rw [g1.cell]; rfl, g1.frozen _, ?_⟩
    rintro w45 rfl
    have t45 := (Tch.refl [b1] w44).setCell (p := ⟨b1, 0, none⟩) (.inl (by simp)) (.int .i64 0)
    have j1 : Blk (w44.setCell ⟨b1, 0, none⟩ (.int .i64 0)) b1 [.int .i64 0] := g1.set 0 _
    have j0 := g0.tch t45 (by simp; omega)
    have j2 := g2.tch t45 (by simp; omega)
    have hG45 := hG44.tch t45 fun z hz => .inl (by simp at hz; have := kr36.lt; omega)
    generalize w44.setCell ⟨b1, 0, none⟩ (.int .i64 0) = w45 at *
    refine ⟨rfl, by rw [j2.cell]; rfl, j2.frozen _, ?_⟩
    rintro w46 rfl
    have t46 := (Tch.refl [b2] w45).setCell (p := ⟨b2, 0, none⟩) (.inl (by simp)) (.int .i64 0)
    have l2 : Blk (w45.setCell ⟨b2, 0, none⟩ (.int .i64 0)) b2 [.int .i64 0] := j2.set 0 _
    have l0 := j0.tch t46 (by simp; omega)
    have l1 := j1.tch t46 (by simp; omega)
    have hG46 := hG45.tch t46 fun z hz => .inl (by simp at hz; have := kr36.lt; omega)
    generalize w45.setCell ⟨b2, 0, none⟩ (.int .i64 0) = w46 at *
    have ht46 : Tch [] w w46 := ((ht36.trans t44 fun k hk => .inr (by simp at hk; omega)).trans t45 fun k hk => .inr (by simp at hk; omega)).trans t46 fun k hk => .inr (by simp at hk; omega)
    refine dfr_calm w46 _ _ _ ?_
    refine ⟨la, q, lc, l0.cell 0, 0, l1.cell 0, 0, l2.cell 0, ?_⟩
    rw [hd]
    refine ⟨ht46, la, q, lc, rfl, ?_⟩
    rw [if_neg (by simp)]
    exact hG46.done.mono fun k hk => ⟨by have := hk.1; have := kr36.lt; omega, hk.2⟩
end Go.Proofs.YtjchneebdlncfaaDoor.Lib
namespace Go.Proofs.YtjchneebdlncfaaDoor.Lib
open Go Den Fn
open Go.RowKit (Below)
set_option maxRecDepth 8000
set_option maxHeartbeats 1000000
/-- The record at a place: its kind, its load, the place behind it, the error. -/
def unslR (r : List Int) (p : Nat) : Int × List Int × Nat × Int :=
  if r.length < 9 then (0, [], 0, 10)
  else if crc (r.take 5) ≠ word r 5 then (0, [], 0, 13)
  else if 16777216 < word r 1 then (0, [], 0, 12)
  else if r.length < 13 + (word r 1).toNat then (0, [], 0, 10)
  else if crc ((r.drop 9).take (word r 1).toNat) ≠ word r (9 + (word r 1).toNat) then (0, [], 0, 13)
  else (r.getD 0 0, (r.drop 9).take (word r 1).toNat, p + 13 + (word r 1).toNat, 0)
def unsl (bs : List Int) (p : Nat) : Int × List Int × Nat × Int := unslR (bs.drop p) p
/-- What is asked of an answer. -/
def UnR (w : World) (u : Int × List Int × Nat × Int) (e : Ending) (w' : World) : Prop :=
  ∃ la lc, e = .returned (.tuple #[.int .u8 u.1, .slice la u.2.1.length lc, .int .i64 u.2.2.1, .int .i64 u.2.2.2]) ∧ w'.ownsRow w.heap.size 5 1 (.slice la u.2.1.length lc) u.2.1.length (u8 u.2.1) ∧ Tch [] w w'
theorem UnR.err {w w' : World} {u : Int × List Int × Nat × Int} {k : Int} (hu : u = (0, [], 0, k)) (ht : Tch [] w w') : UnR w u (.returned (.tuple #[.int .u8 0, .slice none 0 0, .int .i64 0, .int .i64 k])) w' := by
  subst hu
  exact ⟨none, 0, rfl, own_nil _ _ _ _, ht⟩
theorem quiet {w w' : World} {a : Option Addr} {n c : Nat} {cs : List Value} (h : RSl w 1 a n c cs) (ht : Tch [] w w') : RSl w' 1 a n c cs := h.tch ht fun _ _ h => by cases h
theorem unseal_c (w : World) (bs : List Int) (a : Option Addr) (n c p : Nat) (hr : RSl w 1 a n c (u8 bs)) (hB : Bytes bs) (hp : p ≤ n) (hN : n ≤ 140737488355328) (hT : Tab w) :
    Calls Tryd.prog 25 #[.slice a n c, .int .i64 p] w fun e w' => UnR w (unsl bs p) e w' := by
  have hn := u8_len hr
  have hcap := hr.cap
  refine c25 _ _ _ _ ?_
  unfold d25
  refine ⟨fun w' => w' = w, ?_, ?_⟩
  · rw [bif_neg (by omega), bif_neg (by omega)]
  rintro w3 rfl
  simp only [Int.toNat_natCast, show Int.toNat 0 = 0 from rfl, show Int.toNat 1 = 1 from rfl, show Int.toNat 5 = 5 from rfl, show Int.toNat 9 = 9 from rfl]
  refine ⟨by omega, by omega, ?_⟩
  have hR := hr.cut (l := p) (hh := n) hp (Nat.le_refl _)
  rw [List.take_of_length_le (by rw [List.length_drop]; omega)] at hR
  have hRl : (bs.drop p).length = n - p := by rw [List.length_drop]; omega
  have hRB := hB.drop p
  generalize (if c = p then a else Option.map (fun y => Addr.add y (p * 1)) a) = A at *
  unfold unsl
  generalize bs.drop p = r at *
  have hRc := hR.cap
  generalize c - p = C at *
  by_cases h9 : n - p < 9
  · rw [bif_pos (by omega)]
    refine UnR.err ?_ (Tch.refl _ _)
    unfold unslR
    rw [if_pos (by omega)]
  rw [bif_neg (by omega)]
  rintro w4 rfl
  have ht4 := (Tch.refl [] w3).drew
  refine ⟨by omega, by omega, by omega, by omega, by omega, by omega, ?_⟩
  refine (sum_c _ (r.take 5) _ _ _ (quiet (by have := hR.cut (l := 0) (hh := 5) (by omega) (by omega); simpa using this) ht4) (hRB.take 5) (by omega) (hT.tch ht4 (by simp))).mono ?_
  rintro e w5 ⟨rfl, rfl⟩
  refine ⟨_, rfl, ?_⟩
  refine (back_c _ ((r.drop 5).take 4) _ _ _ (quiet (hR.cut (l := 5) (hh := 9) (by omega) (by omega)) ht4) ((hRB.drop 5).take 4) (by omega)).mono ?_
  rintro e w6 ⟨rfl, ht6⟩
  replace ht4 := ht4.trans ht6 (by simp)
  clear ht6
  refine ⟨_, rfl, ?_⟩
  rw [word_take _ (by omega), word_drop]
  by_cases h5 : crc (r.take 5) = word r 5
  rotate_left
  · rw [bif_nneg h5]
    refine UnR.err ?_ ht4
    unfold unslR
    rw [if_neg (by omega), if_pos h5]
  rw [bif_npos h5]
  refine ⟨by omega, by omega, by omega, by omega, ?_⟩
  refine (back_c _ ((r.drop 1).take 4) _ _ _ (quiet (hR.cut (l := 1) (hh := 5) (by omega) (by omega)) ht4) ((hRB.drop 1).take 4) (by omega)).mono ?_
  rintro e w7 ⟨rfl, ht7⟩
  replace ht4 := ht4.trans ht7 (by simp)
  clear ht7
  refine ⟨_, rfl, ?_⟩
  rw [word_take _ (by omega), word_drop]
  show bif decide (16777216 < word r 1) then _ else _
  have hw := word_range hRB 1
  by_cases hbig : 16777216 < word r 1
  · rw [bif_pos hbig]
    refine UnR.err ?_ ht4
    unfold unslR
    rw [if_neg (by omega), if_neg (by simpa using h5), if_pos hbig]
  rw [bif_neg hbig]
  obtain ⟨k, hk⟩ := Int.eq_ofNat_of_zero_le hw.1
  have hu : unslR r p = if r.length < 13 + k then (0, [], 0, 10) else if crc ((r.drop 9).take k) ≠ word r (9 + k) then (0, [], 0, 13) else (r.getD 0 0, (r.drop 9).take k, p + 13 + k, 0) := by
    unfold unslR
    rw [if_neg (by omega), if_neg (by simpa using h5), if_neg hbig, hk, Int.toNat_natCast]
  rw [hk, wrap_i64 (n := (k : Int)) (by omega) (by omega), wrap_i64 (n := 13 + (k : Int)) (by omega) (by omega), wrap_i64 (n := 9 + (k : Int)) (by omega) (by omega), show Int.toNat (9 + (k : Int)) = 9 + k by omega]
  by_cases hsh : n - p < 13 + k
  · rw [bif_pos (by omega)]
    exact UnR.err (by rw [hu, if_pos (by omega)]) ht4
  rw [bif_neg (by omega)]
  rw [if_neg (by omega)] at hu
  refine ⟨by omega, by omega, by omega, by omega, ?_⟩
  rintro w8 rfl
  replace ht4 := ht4.drew
  refine ⟨by omega, by omega, ?_⟩
  have hL := hR.cut (l := 9) (hh := 9 + k) (by omega) (by omega)
  rw [show 9 + k - 9 = k by omega] at hL ⊢
  refine (sum_c _ ((r.drop 9).take k) _ _ _ (quiet hL ht4) ((hRB.drop 9).take k) (by omega) (hT.tch ht4 (by simp))).mono ?_
  rintro e w9 ⟨rfl, rfl⟩
  refine ⟨_, rfl, ?_⟩
  refine (back_c _ ((r.drop (9 + k)).take (n - p - (9 + k))) _ _ _ (quiet (hR.cut (l := 9 + k) (hh := n - p) (by omega) (by omega)) ht4) ((hRB.drop (9 + k)).take _) (by omega)).mono ?_
  rintro e w10 ⟨rfl, ht10⟩
  replace ht4 := ht4.trans ht10 (by simp)
  clear ht10
  refine ⟨_, rfl, ?_⟩
  rw [word_take _ (by omega), word_drop, Nat.add_zero]
  by_cases h6 : crc ((r.drop 9).take k) = word r (9 + k)
  rotate_left
  · rw [bif_nneg h6]
    exact UnR.err (by rw [hu, if_pos h6]) ht4
  rw [bif_npos h6]
  rw [if_neg (by simpa using h6)] at hu
  rintro w11' rfl
  replace ht4 := ht4.drew
  generalize w10.drew = w11 at *
  refine ⟨by omega, by omega, ?_⟩
  have hR0 := quiet hR ht4
  have hll : ((r.drop 9).take k).length = k := by rw [List.length_take, List.length_drop]; omega
  have hgo : ∀ w12, Tch [] w11 w12 → optK A fun x => World.cell? w12 (Addr.add x (0 * 1)) = some (.int .u8 (r.getD 0 0)) := by
    intro w12 ht
    obtain ⟨b, o, rfl, g⟩ := (quiet hR0 ht).int (i := 0) (by omega)
    show World.cell? _ _ = _
    rw [add_mk]
    exact g
  cases A with
  | none => exact (hgo _ (Tch.refl _ _)).elim
  | some x =>
    refine ⟨_, hgo _ (Tch.refl _ _), ?_⟩
    refine (clone_c _ ((r.drop 9).take k) _ _ _ (quiet hL ht4) (by omega)).mono ?_
    rintro e w12 ⟨la, lc, rfl, hown, ht12⟩
    refine ⟨_, _, _, rfl, ⟨_, hgo _ ht12, rfl, trivial⟩, ?_⟩
    rw [hu]
    refine ⟨la, lc, ?_, ?_, ht4.trans ht12 (by simp)⟩
    · rw [hll, wrap_i64 (n := (p : Int) + 13) (by omega) (by omega), wrap_i64 (n := (p : Int) + 13 + k) (by omega) (by omega)]
      simp only
      congr 4
    · rw [hll]
      exact own_base hown ht4.size
end Go.Proofs.YtjchneebdlncfaaDoor.Lib
namespace Go.Proofs.YtjchneebdlncfaaDoor.Lib
open Go Den Fn
open Go.RowKit (Below)
open Classical
set_option maxRecDepth 8000
set_option maxHeartbeats 4000000
theorem unsl_load {bs : List Int} (hB : Bytes bs) (p : Nat) : Bytes (unsl bs p).2.1 ∧ (unsl bs p).2.1.length ≤ bs.length := by
  unfold unsl unslR
  have hl : (bs.drop p).length ≤ bs.length := by rw [List.length_drop]; omega
  repeat' split
  all_goals first | exact ⟨((hB.drop p).drop 9).take _, by rw [List.length_take, List.length_drop]; omega⟩ | exact ⟨by intro y hy; simp at hy, by simp⟩
/-- The load of a frame that is one record of a kind. -/
def loadS (bs : List Int) (kind : Int) : Option (List Int) := if (unsl bs 0).2.2.2 = 0 ∧ (unsl bs 0).2.2.1 = bs.length ∧ (unsl bs 0).1 = kind then some (unsl bs 0).2.1 else none
theorem loadS_some {bs ld : List Int} {kind : Int} (h : loadS bs kind = some ld) : ld = (unsl bs 0).2.1 := by
  unfold loadS at h
  split at h
  · exact (Option.some.inj h).symm
  · cases h
/-- An input's number and an epoch, read: the two, the place and the error behind them. -/
def nmA (bs : List Int) (p : Nat) (e : Int) : Nat × Nat × Int := rUpto bs 15 p e
def nmB (bs : List Int) (p : Nat) (e : Int) : Nat × Nat × Int := rUpto bs 1099511627776 (nmA bs p e).2.1 (nmA bs p e).2.2
def nmK (bs : List Int) (p : Nat) (e : Int) : Int × Int := ((nmA bs p e).1, (nmB bs p e).1)
def NmOk (bs : List Int) (p : Nat) (e : Int) : Prop := (nmB bs p e).2.2 = 0 ∧ 1 ≤ (nmB bs p e).1
theorem nm_le {bs : List Int} (hB : Bytes bs) {p : Nat} {e : Int} (hp : p ≤ bs.length) : (nmB bs p e).2.1 ≤ bs.length ∧ (nmA bs p e).1 ≤ 15 ∧ (nmB bs p e).1 ≤ 1099511627776 := by
  have h1 := rUpto_le (most := 15) (e := e) hB hp
  have h2 := rUpto_le (most := 1099511627776) (e := (nmA bs p e).2.2) hB h1.1
  exact ⟨h2.1, h1.2.2, h2.2.2⟩
noncomputable def pieceL (ld : List Int) : Option (Int × Int × List Tx) :=
  if NmOk ld 0 0 then if (decS (ld.drop (nmB ld 0 0).2.1)).2.2 = 0 then some ((nmK ld 0 0).1, (nmK ld 0 0).2, (decS (ld.drop (nmB ld 0 0).2.1)).1) else none else none
noncomputable def pieceD (bs : List Int) : Option (Int × Int × List Tx) := (loadS bs 77).bind pieceL
noncomputable def wGo (ld : List Int) : Nat → Nat → List (Int × Int) → Option (List (Int × Int))
  | 0, p, acc => if p < ld.length then none else some acc
  | m + 1, p, acc => if NmOk ld p 0 then wGo ld m (nmB ld p 0).2.1 (acc ++ [nmK ld p 0]) else none
noncomputable def wantsL (ld : List Int) : Option (List (Int × Int)) := if (rUpto ld 1024 0 0).2.2 ≠ 0 then none else wGo ld (rUpto ld 1024 0 0).1 (rUpto ld 1024 0 0).2.1 []
noncomputable def wantsD (bs : List Int) : Option (List (Int × Int)) := (loadS bs 87).bind wantsL
/-- What is handed back. -/
def PieceO (w : World) (D : Option (Int × Int × List Tx)) (en : Ending) (w' : World) : Prop := Tch [] w w' ∧ match D with
  | none => en = .returned (.tuple #[.agg #[.int .i64 0, .int .i64 0, .slice none 0 0], .int .i64 264])
  | some (i, n, l) => ∃ a k c, en = .returned (.tuple #[.agg #[.int .i64 i, .int .i64 n, .slice a k c], .int .i64 0]) ∧ BatchV (Btw2 w.heap.size w'.heap.size) w' a k c l
def WantsO (w : World) (D : Option (List (Int × Int))) (en : Ending) (w' : World) : Prop := Tch [] w w' ∧ match D with
  | none => en = .returned (.tuple #[.slice none 0 0, .int .i64 264])
  | some l => ∃ a c, en = .returned (.tuple #[.slice a l.length c, .int .i64 0]) ∧ w'.ownsRow w.heap.size 59 2 (.slice a l.length c) l.length (rows kC l)
theorem loadB {bs ld : List Int} {kind : Int} (h : loadS bs kind = some ld) (hB : Bytes bs) : Bytes ld := by rw [loadS_some h]; exact (unsl_load hB 0).1
theorem load_c (w : World) (bs : List Int) (a : Option Addr) (n c : Nat) (kind : Int) (hr : RSl w 1 a n c (u8 bs)) (hB : Bytes bs) (hN : n ≤ 140737488355328) (hT : Tab w) :
    Calls Tryd.prog 41 #[.slice a n c, .int .u8 kind] w fun e w' => Tch [] w w' ∧ match loadS bs kind with
      | none => e = .returned (.tuple #[.pointer none, .bool false])
      | some ld => ∃ b xa xc, e = .returned (.tuple #[.pointer (some ⟨b, 0, none⟩), .bool true]) ∧ Rd w' b xa ld.length xc ld 0 0 ∧ w.heap.size ≤ b ∧ (∀ x, xa = some x → w.heap.size ≤ x.block) := by
  have hn := u8_len hr
  refine c41 _ _ _ _ ?_
  unfold d41
  refine (unseal_c w bs a n c 0 hr hB (by omega) hN hT).mono ?_
  rintro e w3 ⟨la, lc, rfl, ho, t3⟩
  have hld := unsl_load hB 0
  unfold loadS
  generalize unsl bs 0 = u at *
  obtain ⟨k, ld, nx, er⟩ := u
  simp only at ho hld ⊢
  refine ⟨_, _, _, _, _, _, rfl, _, rfl, _, _, _, rfl, _, rfl, _, rfl, fun u => u = w3 ∧ (er = 0 ∧ nx = bs.length ∧ k = kind), ?_, ?_⟩
  · by_cases h1 : er = 0
    rotate_left
    · rw [bif_nneg h1, if_neg (fun hh => h1 hh.1)]; exact ⟨t3, trivial⟩
    rw [bif_npos h1]
    by_cases h2 : nx = bs.length
    rotate_left
    · rw [bif_nneg (by omega), if_neg (fun hh => h2 hh.2.1)]; exact ⟨t3, trivial⟩
    rw [bif_npos (by omega)]
    by_cases h3 : k = kind
    rotate_left
    · rw [bif_nneg h3, if_neg (fun hh => h3 hh.2.2)]; exact ⟨t3, trivial⟩
    rw [bif_npos h3]
    exact ⟨rfl, h1, h2, h3⟩
  rintro w13 ⟨rfl, hall⟩
  rw [if_pos hall]
  refine (read_c w13 ld la _ lc (own_rsl ho ones_ints) hld.1 (by omega)).mono ?_
  rintro e w15 ⟨b, xa, xc, rfl, hR, t15, hb, hx⟩
  exact ⟨_, rfl, t3.trans t15 (by simp), b, xa, xc, rfl, hR, by have := t3.size; omega, fun x h => by have := hx x h; have := t3.size; omega⟩
theorem name_c (w : World) (b n c p : Nat) (a : Option Addr) (bs : List Int) (e : Int) (h : Rd w b a n c bs p e) :
    Calls Tryd.prog 42 #[.pointer (some ⟨b, 0, none⟩)] w fun en w' => en = .returned (.tuple #[.int .i64 (nmK bs p e).1, .int .i64 (nmK bs p e).2, .bool (decide (NmOk bs p e))]) ∧ RdR w w' b a n c bs (nmB bs p e).2 := by
  refine c42 _ ?_
  unfold d42
  have hle := nm_le (e := e) h.B (by rw [h.len]; exact h.le)
  refine (upto_c w b n c p a bs e 15 h).mono ?_
  rintro en w2 ⟨rfl, hR⟩
  refine ⟨_, rfl, ?_⟩
  refine (upto_c w2 b n c _ a bs _ 1099511627776 hR.1).mono ?_
  rintro en w5 ⟨rfl, hR2⟩
  have hRR := hR.trans hR2
  refine ⟨_, rfl, ?_⟩
  refine (errR_c w5 b n c _ a bs _ hR2.1).mono ?_
  rintro en w8 ⟨rfl, hw⟩
  rw [hw]
  clear hw
  refine ⟨_, rfl, ?_⟩
  change _ ≤ bs.length ∧ (nmA bs p e).1 ≤ 15 ∧ (nmB bs p e).1 ≤ _ at hle
  have hA : IntKind.wrap .i64 (((rUpto bs 15 p e).1 : Nat) : Int) = (nmK bs p e).1 := wrap_i64 (by omega) (by have : (rUpto bs 15 p e).1 ≤ 15 := hle.2.1; omega)
  have hB : IntKind.wrap .i64 (((nmB bs p e).1 : Nat) : Int) = (nmK bs p e).2 := wrap_i64 (by omega) (by omega)
  change (bif decide ((nmB bs p e).2.2 = 0) then _ else _)
  rw [hA]
  by_cases h0 : (nmB bs p e).2.2 = 0
  · rw [bif_pos h0]
    refine (epoch_c _ w5).mono ?_
    rintro en w11 ⟨rfl, hw⟩
    rw [hw]
    refine ⟨_, rfl, ?_, hRR⟩
    change Ending.returned (.tuple #[_, .int .i64 (IntKind.wrap .i64 ((nmB bs p e).1 : Int)), .bool (decide (EpOk (IntKind.wrap .i64 ((nmB bs p e).1 : Int))))]) = _
    rw [hB, show decide (EpOk (nmK bs p e).2) = decide (NmOk bs p e) from decide_eq_decide.2 ⟨fun g => ⟨h0, by have : (1 : Int) ≤ ((nmB bs p e).1 : Int) := g.1; omega⟩, fun g => ⟨by have := g.2; show (1 : Int) ≤ ((nmB bs p e).1 : Int); omega, by show ((nmB bs p e).1 : Int) ≤ _; omega⟩⟩]
  · rw [bif_neg h0]
    refine ⟨?_, hRR⟩
    change Ending.returned (.tuple #[_, .int .i64 (IntKind.wrap .i64 ((nmB bs p e).1 : Int)), .bool false]) = _
    rw [hB, decide_eq_false fun g => h0 g.1]
theorem zcPiece : zc Tryd.prog 37 = [.int .i64 0, .int .i64 0, .slice none 0 0] := by kernel_rfl
theorem decPiece_c (w : World) (bs : List Int) (a : Option Addr) (n c : Nat) (hr : RSl w 1 a n c (u8 bs)) (hB : Bytes bs) (hN : n ≤ 140737488355328) (hT : Tab w) :
    Calls Tryd.prog 18 #[.slice a n c] w (PieceO w (pieceD bs)) := by
  have hn := u8_len hr
  refine c18 _ _ _ ?_
  unfold d18
  rintro w1 rfl
  have hP : Blk _ _ [Value.int .i64 0, .int .i64 0, .slice none 0 0] := Blk.fresh w (cs := zc Tryd.prog 37) 37 zcPiece
  have t1 := (Tch.refl [] w).alloc (.cells (zc Tryd.prog 37).toArray 37)
  have s1 := size_alloc w (.cells (zc Tryd.prog 37).toArray 37)
  generalize w.alloc (.cells (zc Tryd.prog 37).toArray 37) = w1 at *
  obtain ⟨pb, hpb⟩ : ∃ pb, w.heap.size = pb := ⟨_, rfl⟩
  rw [hpb] at hP s1 ⊢
  -- the answer that is put together
  have fin : ∀ {u : World} {cs : List Value} {D : Option (Int × Int × List Tx)} {k : Int}, Tch [] w u → Blk u pb [Value.int .i64 0, .int .i64 0, .slice none 0 0] → cs.length = 3 → (∀ v ∈ cs, one v = true) →
      (∀ u', Tch [pb] u u' → Tch [] w u' → PieceO w D (.returned (.tuple #[.agg cs.toArray, .int .i64 k])) u') →
      Array.size (List.toArray cs) = 3 ∧ (∀ u ∈ Array.toList (List.toArray cs), one u = true) ∧ Room u ⟨pb, 0, none⟩ 3 ∧ ∀ w9 : World, w9 = setCells u ⟨pb, 0, none⟩ (Array.toList (List.toArray cs)) 0 → ∃ cs10 : List Value, List.length cs10 = 3 ∧ Cells w9 ⟨pb, 0, none⟩ cs10 ∧ PieceO w D (.returned (.tuple #[.agg (List.toArray cs10), .int .i64 k])) w9 := fun {u cs D k} ht hb hl ho hK =>
    put_all hb rfl hl ho fun u' h2 h3 h4 => get_all h2 hl (hK u' h3 (ht.trans h3 fun z hz => .inr (by simp at hz; omega)))
  refine (load_c w1 bs a n c 77 (hr.tch t1 (fun _ _ h => by cases h)) hB hN (hT.since t1)).mono ?_
  rintro e w3 ⟨t3, hL⟩
  have hP3 := hP.tch t3 (by simp)
  have q3 := t1.trans t3 (by simp)
  unfold pieceD
  cases hld : loadS bs 77 with
  | none =>
    rw [hld] at hL
    obtain rfl := hL
    refine ⟨_, _, rfl, _, rfl, _, rfl, ?_⟩
    rw [show (!false) = true from rfl, cond_true]
    exact ⟨_, by rw [zcPiece]; rfl, fin q3 hP3 rfl (by simp [one]) fun u' _ t => ⟨t, rfl⟩⟩
  | some ld =>
    rw [hld] at hL
    obtain ⟨b, xa, xc, rfl, hR, hb, hx⟩ := hL
    have hldl : ld.length ≤ bs.length := by rw [loadS_some hld]; exact (unsl_load hB 0).2
    refine ⟨_, _, rfl, _, rfl, _, rfl, ?_⟩
    rw [show (!true) = false from rfl, cond_false]
    refine (name_c w3 b ld.length xc 0 xa ld 0 hR).mono ?_
    rintro e w12 ⟨rfl, hR12⟩
    refine ⟨_, _, _, rfl, _, rfl, _, rfl, _, rfl, ?_⟩
    have hpbb : pb ≠ b := by omega
    have hP12 := hP3.tch hR12.2 (by simpa using hpbb)
    have q12 : Tch [] w w12 := q3.trans hR12.2 fun z hz => .inr (by simp at hz; omega)
    show (bif !decide (NmOk ld 0 0) then ∃ cs19, _ ∧ _ else _)
    simp only [Option.bind_some]
    unfold pieceL
    by_cases hok : NmOk ld 0 0
    rotate_left
    · rw [if_neg hok, decide_eq_false hok, show (!false) = true from rfl, cond_true]
      exact ⟨_, by rw [zcPiece]; rfl, fin q12 hP12 rfl (by simp [one]) fun u' _ t => ⟨t, rfl⟩⟩
    rw [if_pos hok, decide_eq_true hok, show (!true) = false from rfl, cond_false]
    have hok0 := hok.1
    have hple := (nm_le (e := 0) (loadB hld hB) (p := 0) (by omega)).1
    generalize hnp : (nmB ld 0 0).2 = st at *
    obtain ⟨p, er⟩ := st
    simp only at hok0 hple hR12 ⊢
    subst hok0
    refine (leftR_c w12 b ld.length xc p xa ld 0 hR12.1).mono ?_
    rintro e w23 ⟨rfl, t23⟩
    refine ⟨_, rfl, ?_⟩
    have hR23 := hR12.1.quiet t23
    rw [show ((ld.length : Nat) : Int) - (p : Int) = ((ld.length - p : Nat) : Int) by omega]
    refine (rawR_c w23 b ld.length xc p xa ld 0 _ hR23).mono ?_
    have hraw : (rRaw ld ((ld.length - p : Nat) : Int) p 0) = (ld.drop p, p + (ld.length - p), 0) := by
      rcases rRaw_cases ld (ld.length - p) p 0 with g | g
      · rw [g.2.2, List.take_of_length_le (by rw [List.length_drop]; omega)]
      · exact absurd ⟨rfl, by omega⟩ g.1
    rw [hraw]
    rintro e w26 ⟨ya, yc, rfl, hR26, hy⟩
    refine ⟨_, _, _, rfl, ?_⟩
    have hP26 := (hP12.tch t23 (by simp)).tch hR26.2 (by simpa using hpbb)
    have q26 : Tch [] w w26 := (q12.trans t23 (by simp)).trans hR26.2 fun z hz => .inr (by simp at hz; omega)
    refine (decode_c w26 (ld.drop p) ya _ yc (own_rsl hy ones_ints) ((loadB hld hB).drop p) (by rw [List.length_drop]; omega)).mono ?_
    rintro e w29 ⟨t29, ba, bn, bc, rfl, hbat⟩
    refine ⟨_, _, _, _, _, rfl, _, _, _, rfl, _, rfl, _, rfl, ?_⟩
    have hP29 := hP26.tch t29 (by simp)
    have q29 := q26.trans t29 (by simp)
    generalize decS (ld.drop p) = D at *
    by_cases hD : D.2.2 = 0
    rotate_left
    · rw [bif_nneg hD, if_neg hD]
      exact ⟨_, by rw [zcPiece]; rfl, fin q29 hP29 rfl (by simp [one]) fun u' _ t => ⟨t, rfl⟩⟩
    rw [bif_npos hD, if_pos hD]
    rw [if_neg (by simpa using hD)] at hbat
    refine ⟨[.int .i64 (nmK ld 0 0).1, .int .i64 (nmK ld 0 0).2, .slice ba bn bc], by rw [zcPiece]; rfl, fin q29 hP29 rfl (by simp [one]) fun u' tp t => ⟨t, ba, bn, bc, rfl, ?_⟩⟩
    refine (hbat.tch tp fun z hz hF => ?_).mono fun z hz => ⟨?_, ?_⟩
    · simp only [List.mem_singleton] at hz
      subst hz
      have := hF.1; have := q26.size; have := hP26.lt
      omega
    · have := hz.1; have := q26.size; omega
    · have := hz.2; have := tp.size; omega
theorem wantT : slT Tryd.prog 38 59 2 16 = true := by kernel_rfl
theorem zcWants : zrep (zc Tryd.prog 59) (1 * 2) = kC (0, 0) := by kernel_rfl
theorem decWants_c (w : World) (bs : List Int) (a : Option Addr) (n c : Nat) (hr : RSl w 1 a n c (u8 bs)) (hB : Bytes bs) (hN : n ≤ 140737488355328) (hT : Tab w) :
    Calls Tryd.prog 20 #[.slice a n c] w (WantsO w (wantsD bs)) := by
  have hn := u8_len hr
  refine c20 _ _ _ ?_
  unfold d20
  refine (load_c w bs a n c 87 hr hB hN hT).mono ?_
  rintro e w2 ⟨t2, hL⟩
  unfold wantsD
  cases hld : loadS bs 87 with
  | none =>
    rw [hld] at hL
    obtain rfl := hL
    refine ⟨_, _, rfl, _, rfl, _, rfl, ?_⟩
    rw [show (!false) = true from rfl, cond_true]
    exact ⟨t2, rfl⟩
  | some ld =>
    rw [hld] at hL
    obtain ⟨b, xa, xc, rfl, hR, hb, hx⟩ := hL
    have hldl : ld.length ≤ bs.length := by rw [loadS_some hld]; exact (unsl_load hB 0).2
    have hLB := loadB hld hB
    refine ⟨_, _, rfl, _, rfl, _, rfl, ?_⟩
    rw [show (!true) = false from rfl, cond_false]
    simp only [Option.bind_some]
    refine (upto_c w2 b ld.length xc 0 xa ld 0 1024 hR).mono ?_
    rintro e w8 ⟨rfl, hR8⟩
    have hle := rUpto_le (most := 1024) (e := 0) hLB (p := 0) (by omega)
    have hue : (rUpto ld 1024 0 0).2.2 ≠ 0 → (rUpto ld 1024 0 0).1 = 0 ∧ (rUpto ld 1024 0 0).2.1 = 0 := rUpto_err
    unfold wantsL
    generalize rUpto ld 1024 0 0 = u at *
    obtain ⟨cnt, p1, e1⟩ := u
    simp only at hle hue hR8 ⊢
    generalize hDd : (if e1 ≠ 0 then none else wGo ld cnt p1 []) = D
    have hbl := hR8.1.blk.lt
    have hs8 := hR8.2.size
    have hbl2 := hR.blk.lt
    have hlow := hR.row.low (by omega)
    have hrow : ∀ {u : World}, Tch [b] w2 u → Tch [] w u := fun t => t2.trans t fun z hz => .inr (by simp at hz; omega)
    refine ⟨_, rfl, fun m la ln lc x u => ∃ (q p' : Nat) (acc : List (Int × Int)), x = ((cnt - q : Nat) : Int) ∧ q ≤ cnt ∧ m = cnt - q ∧ acc.length = q ∧ ln = q ∧ Rd u b xa ld.length xc ld p' e1 ∧ Tch [] w u ∧ w8.heap.size ≤ u.heap.size ∧ u.ownsRow w8.heap.size 59 2 (.slice la ln lc) ln (rows kC acc) ∧ (e1 = 0 → D = wGo ld (cnt - q) p' acc) ∧ (e1 ≠ 0 → D = none ∧ cnt = 0),
      ⟨cnt, 0, p1, [], by simp, by omega, rfl, rfl, rfl, hR8.1, hrow hR8.2, Nat.le_refl _, own_nil _ _ _ _, fun he => by rw [← hDd, if_neg (by simpa using he)]; rfl, fun he => ⟨by rw [← hDd, if_pos he], (hue he).1⟩⟩, ?_⟩
    clear hR8
    rintro m w12 la ln lc x ⟨q, p', acc, rfl, hq, rfl, hal, rfl, hR, ht, hsz, hown, hk, hbad⟩
    by_cases hlt : ln < cnt
    · rw [bif_pos (by omega)]
      obtain rfl : e1 = 0 := Classical.byContradiction fun he => by have := (hbad he).2; omega
      have hp := hR.le
      obtain ⟨r, hr'⟩ : ∃ r, cnt - ln = r + 1 := ⟨cnt - ln - 1, by omega⟩
      replace hk := hk rfl
      rw [hr'] at hk
      have hstep : wGo ld (r + 1) p' acc = if NmOk ld p' 0 then wGo ld r (nmB ld p' 0).2.1 (acc ++ [nmK ld p' 0]) else none := rfl
      refine (name_c w12 b ld.length xc p' xa ld 0 hR).mono ?_
      rintro e w16 ⟨rfl, hR16⟩
      refine ⟨_, _, _, rfl, _, rfl, _, rfl, _, rfl, ?_⟩
      have q16 : Tch [] w w16 := ht.trans hR16.2 fun z hz => .inr (by simp at hz; omega)
      show (bif !decide (NmOk ld p' 0) then _ else ∃ cs23, fillL _ _ [(0, Value.int .i64 (nmK ld p' 0).1), (1, .int .i64 (nmK ld p' 0).2)] = some cs23 ∧ _)
      by_cases hok : NmOk ld p' 0
      rotate_left
      · rw [decide_eq_false hok, show (!false) = true from rfl, cond_true, hk, hstep, if_neg hok]
        exact ⟨q16, rfl⟩
      rw [decide_eq_true hok, show (!true) = false from rfl, cond_false]
      refine ⟨kC (nmK ld p' 0), by rw [zcWant]; rfl, ?_⟩
      rw [zcWants]
      have hown16 := own_up hown hR16.2 (fun z hz hm => by
        simp only [List.mem_singleton] at hm
        have := (own_lt hown hz).1
        omega)
      have hs16 := hR16.2.size
      refine app_elem_at (z := kC (0, 0)) (ys := kC (nmK ld p' 0)) wantT hown16 rfl rfl rfl kC_one (by omega) (by omega) (by omega) fun a' c' w27 ho27 t27 _ => ?_
      have hok0 := hok.1
      have hg : ∀ k ∈ rowL la, w8.heap.size ≤ k := fun k hk => (rowL_ge hown16 k hk).1
      have hs27 := t27.size
      have hst : (nmB ld p' 0).2 = ((nmB ld p' 0).2.1, 0) := Prod.ext rfl hok0
      rw [hst] at hR16
      refine ⟨r, by omega, ln + 1, (nmB ld p' 0).2.1, acc ++ [nmK ld p' 0], by rw [wrap_u64 (by omega) (by omega)]; omega, by omega, by omega, by simp [hal], rfl, ?_, ?_, by omega, ?_, fun _ => by rw [hk, hstep, if_pos hok, show cnt - (ln + 1) = r by omega], fun he => absurd rfl he⟩
      · exact hR16.1.tch t27 (fun hm => by have := hg _ hm; omega) (hlow.imp id fun hl z hz hm => by have := hl z hz; have := hg _ hm; omega)
      · exact q16.trans t27 fun z hz => .inr (by have := hg z hz; have := ht.size; have := t2.size; omega)
      · rw [rows_append]
        exact ho27
    · rw [bif_neg (by omega)]
      refine (endR_c w12 b ld.length xc p' xa ld e1 hR).mono ?_
      rintro e w31 ⟨rfl, t31⟩
      refine ⟨_, rfl, ?_⟩
      have q31 := ht.trans t31 (by simp)
      have hown31 := own_up hown t31 (fun _ _ h => by cases h)
      by_cases he : e1 = 0
      · subst he
        rw [hk rfl, show cnt - ln = 0 by omega]
        unfold rEnd wGo
        by_cases hp : p' < ld.length
        · rw [if_pos ⟨rfl, hp⟩, if_pos hp, bif_nneg (by omega)]
          exact ⟨q31, rfl⟩
        · rw [if_neg (fun h => hp h.2), if_neg hp, bif_npos rfl]
          refine ⟨q31, la, lc, by rw [hal], ?_⟩
          rw [hal]
          exact own_base hown31 (by have := t2.size; omega)
      · rw [(hbad he).1]
        unfold rEnd
        rw [if_neg (fun h => he h.1), bif_nneg he]
        exact ⟨q31, rfl⟩
end Go.Proofs.YtjchneebdlncfaaDoor.Lib
namespace Go.Proofs.YtjchneebdlncfaaDoor.Lib
open Go Den Fn
open Go.RowKit (Below)
open Classical
set_option maxRecDepth 8000
set_option maxHeartbeats 4000000
/-- What a list's reading comes to. -/
def RSetO (w : World) (b n c : Nat) (a : Option Addr) (bs : List Int) (K : List (Int × Int) × Nat × Int) (en : Ending) (w' : World) : Prop :=
  RdR w w' b a n c bs K.2 ∧ ∃ la lc, en = .returned (.slice la K.1.length lc) ∧ w'.ownsRow w.heap.size 129 2 (.slice la K.1.length lc) K.1.length (rows kC K.1)
theorem RSetO.bad {w w' : World} {b n c p : Nat} {a : Option Addr} {bs : List Int} {e : Int} {en : Ending} (h : RdR w w' b a n c bs (p, e)) (he : en = .returned (.slice none 0 0)) : RSetO w b n c a bs ([], p, e) en w' := ⟨h, none, 0, he, own_nil _ _ _ _⟩
/-! ### A transaction -/
end Go.Proofs.YtjchneebdlncfaaDoor.Lib
namespace Go.Proofs.YtjchneebdlncfaaDoor.Frm
open Go Den Fn Lib
open Go.RowKit (Below)
open Classical
set_option maxRecDepth 8000
set_option maxHeartbeats 4000000
def Sm (x : Tx) : Prop := x.args.length ≤ 100000 ∧ x.reads.length ≤ 100000 ∧ x.writes.length ≤ 100000
theorem sameTx_c {F G : Nat → Prop} (w : World) (u v : List Value) (x y : Tx) (hx : TxV F w u x) (hy : TxV G w v y) (hs : Sm x) :
    Calls Tryd.prog 86 #[.agg u.toArray, .agg v.toArray] w fun e w' => e = .returned (.bool (decide (x = y))) ∧ Tch [] w w' := by
  obtain ⟨a1, n1, c1, a2, n2, c2, a3, n3, c3, rfl, h1, h2, h3, hxo⟩ := hx
  obtain ⟨b1, m1, d1, b2, m2, d2, b3, m3, d3, rfl, g1, g2, g3, hyo⟩ := hy
  have e1 := args_count h1
  have e2 := keys_count h2
  have e3 := keys_count h3
  have f1 := args_count g1
  have f2 := keys_count g2
  have f3 := keys_count g3
  obtain ⟨s1, s2, s3⟩ := hs
  refine c86 _ _ ?_
  unfold d86
  rintro w2 rfl w3 rfl
  have hS := ((St.refl w []).new [.int .i64 x.proc, .slice a1 n1 c1, .slice a2 n2 c2, .slice a3 n3 c3] 76 rfl).new [.int .i64 y.proc, .slice b1 m1 d1, .slice b2 m2 d2, .slice b3 m3 d3] 76 rfl
  generalize (w.alloc (.cells [Value.int .i64 x.proc, .slice a1 n1 c1, .slice a2 n2 c2, .slice a3 n3 c3].toArray 76)).alloc (.cells [Value.int .i64 y.proc, .slice b1 m1 d1, .slice b2 m2 d2, .slice b3 m3 d3].toArray 76) = w3 at *
  generalize (w.alloc (.cells [Value.int .i64 x.proc, .slice a1 n1 c1, .slice a2 n2 c2, .slice a3 n3 c3].toArray 76)).heap.size = qb at *
  generalize w.heap.size = pb at *
  have cx : ∀ {u : World} (q : Nat), St w [] u [fBlk qb [.int .i64 y.proc, .slice b1 m1 d1, .slice b2 m2 d2, .slice b3 m3 d3], fBlk pb [.int .i64 x.proc, .slice a1 n1 c1, .slice a2 n2 c2, .slice a3 n3 c3]] → u.cell? (Addr.add ⟨pb, 0, none⟩ q) = ([.int .i64 x.proc, .slice a1 n1 c1, .slice a2 n2 c2, .slice a3 n3 c3] : List Value)[q]? := fun q hS => by
    rw [add_mk, Nat.zero_add]; exact (hS.blk (b := pb) (by simp)).cell q
  have cy : ∀ {u : World} (q : Nat), St w [] u [fBlk qb [.int .i64 y.proc, .slice b1 m1 d1, .slice b2 m2 d2, .slice b3 m3 d3], fBlk pb [.int .i64 x.proc, .slice a1 n1 c1, .slice a2 n2 c2, .slice a3 n3 c3]] → u.cell? (Addr.add ⟨qb, 0, none⟩ q) = ([.int .i64 y.proc, .slice b1 m1 d1, .slice b2 m2 d2, .slice b3 m3 d3] : List Value)[q]? := fun q hS => by
    rw [add_mk, Nat.zero_add]; exact (hS.blk (b := qb) (by simp)).cell q
  have no : ∀ {w' : World}, x ≠ y → Tch [] w w' → (Ending.returned (.bool false) = .returned (.bool (decide (x = y))) ∧ Tch [] w w') := fun h ht => ⟨by rw [decide_eq_false h], ht⟩
  refine ⟨fun u => x.proc = y.proc ∧ n1 = m1 ∧ n2 = m2 ∧ n3 = m3 ∧ u = w3, ?_, ?_⟩
  · refine ⟨x.proc, cx 0 hS, y.proc, cy 0 hS, ?_⟩
    by_cases hp : x.proc = y.proc
    rotate_left
    · rw [bif_nneg hp]; exact no (fun h => hp (by rw [h])) hS.tch
    rw [bif_npos hp]
    refine ⟨a1, n1, c1, cx 1 hS, b1, m1, d1, cy 1 hS, ?_⟩
    by_cases q1 : n1 = m1
    rotate_left
    · rw [bif_nneg (by omega)]; exact no (fun h => q1 (by rw [← e1, ← f1, h])) hS.tch
    rw [bif_npos (by omega)]
    refine ⟨a2, n2, c2, cx 2 hS, b2, m2, d2, cy 2 hS, ?_⟩
    by_cases q2 : n2 = m2
    rotate_left
    · rw [bif_nneg (by omega)]; exact no (fun h => q2 (by rw [← e2, ← f2, h])) hS.tch
    rw [bif_npos (by omega)]
    refine ⟨a3, n3, c3, cx 3 hS, b3, m3, d3, cy 3 hS, ?_⟩
    by_cases q3 : n3 = m3
    · rw [bif_npos (by omega)]; exact ⟨hp, q1, q2, q3, rfl⟩
    · rw [bif_nneg (by omega)]; exact no (fun h => q3 (by rw [← e3, ← f3, h])) hS.tch
  rintro w13 ⟨hp, rfl, rfl, rfl, rfl⟩
  have snoc : ∀ {α : Type} {l m : List α} {i : Nat}, l.take i = m.take i → l[i]? = m[i]? → l.take (i + 1) = m.take (i + 1) := fun h1 h2 => by
    rw [List.take_add_one, List.take_add_one, h1, h2]
  refine ⟨fun q k u => ∃ i : Nat, k = i ∧ i ≤ n1 ∧ q = n1 - i ∧ x.args.take i = y.args.take i ∧ St w [] u [fBlk qb [.int .i64 y.proc, .slice b1 n1 d1, .slice b2 n2 d2, .slice b3 n3 d3], fBlk pb [.int .i64 x.proc, .slice a1 n1 c1, .slice a2 n2 c2, .slice a3 n3 c3]], ⟨n1, 0, rfl, by omega, rfl, rfl, hS⟩, ?_⟩
  clear hS
  rintro q w16 k ⟨i, rfl, hi, rfl, htk, hS⟩
  refine ⟨a1, n1, c1, cx 1 hS, ?_⟩
  by_cases hlt : i < n1
  · rw [bif_pos (by omega)]
    rintro w19 rfl
    replace hS := hS.drew
    generalize w16.drew = w19 at *
    refine ⟨a1, n1, c1, cx 1 hS, by omega, by omega, ?_⟩
    rw [Int.toNat_natCast]
    obtain ⟨x1, o1, rfl, k1⟩ := (h1.tch hS.tch (by simp)).1.int (i := i) hlt
    obtain ⟨y1, p1, rfl, k2⟩ := (g1.tch hS.tch (by simp)).1.int (i := i) hlt
    show ∃ _, _
    rw [add_mk, Nat.mul_one]
    refine ⟨_, k1, _, n1, d1, cy 1 hS, by omega, by omega, ?_⟩
    show ∃ _, _
    refine ⟨_, by rw [add_mk]; exact k2, ?_⟩
    have w1 : x.args[i]? = some (x.args[i]'(by omega)) := List.getElem?_eq_getElem (by omega)
    have w2 : y.args[i]? = some (y.args[i]'(by omega)) := List.getElem?_eq_getElem (by omega)
    rw [List.getD_eq_getElem?_getD, List.getD_eq_getElem?_getD, w1, w2, Option.getD_some, Option.getD_some]
    by_cases hd : x.args[i]'(by omega) = y.args[i]'(by omega)
    · rw [bif_npos hd]
      exact ⟨n1 - (i + 1), by omega, i + 1, by rw [wrap_i64 (by omega) (by omega)]; omega, by omega, rfl, snoc htk (by rw [w1, w2, hd]), hS⟩
    · rw [bif_nneg hd]
      exact no (fun h => hd (by subst h; rfl)) hS.tch
  rw [bif_neg (by omega)]
  have ha : x.args = y.args := by
    rw [List.take_of_length_le (by omega), List.take_of_length_le (by omega)] at htk
    exact htk
  refine ⟨fun q k u => ∃ i : Nat, k = i ∧ i ≤ n2 ∧ q = n2 - i ∧ x.reads.take i = y.reads.take i ∧ St w [] u [fBlk qb [.int .i64 y.proc, .slice b1 n1 d1, .slice b2 n2 d2, .slice b3 n3 d3], fBlk pb [.int .i64 x.proc, .slice a1 n1 c1, .slice a2 n2 c2, .slice a3 n3 c3]], ⟨n2, 0, rfl, by omega, rfl, rfl, hS⟩, ?_⟩
  clear hS htk
  rintro q w29 k ⟨j, rfl, hj, rfl, htk, hS⟩
  refine ⟨a2, n2, c2, cx 2 hS, ?_⟩
  by_cases hlt : j < n2
  · rw [bif_pos (by omega)]
    rintro w32 rfl
    replace hS := hS.drew
    generalize w29.drew = w32 at *
    refine ⟨a2, n2, c2, cx 2 hS, by omega, by omega, ?_⟩
    rw [Int.toNat_natCast]
    have w1 : x.reads[j]? = some (x.reads[j]'(by omega)) := List.getElem?_eq_getElem (by omega)
    have w2 : y.reads[j]? = some (y.reads[j]'(by omega)) := List.getElem?_eq_getElem (by omega)
    refine (h2.tch hS.tch (by simp)).1.elem kC_len (by omega) w1 ?_
    refine ⟨b2, n2, d2, cy 2 hS, by omega, by omega, ?_⟩
    refine (g2.tch hS.tch (by simp)).1.elem kC_len (by omega) w2 ?_
    refine neq_flat_d key_flat key_eqT (key_fits (hxo.reads _ (List.mem_of_getElem? w1))) (key_fits (hyo.reads _ (List.mem_of_getElem? w2))) kC_inj ?_
    by_cases hd : x.reads[j]'(by omega) = y.reads[j]'(by omega)
    · rw [bif_npos hd]
      exact ⟨n2 - (j + 1), by omega, j + 1, by rw [wrap_i64 (by omega) (by omega)]; omega, by omega, rfl, snoc htk (by rw [w1, w2, hd]), hS⟩
    · rw [bif_nneg hd]
      exact no (fun h => hd (by subst h; rfl)) hS.tch
  rw [bif_neg (by omega)]
  have hr : x.reads = y.reads := by
    rw [List.take_of_length_le (by omega), List.take_of_length_le (by omega)] at htk
    exact htk
  refine ⟨fun q k u => ∃ i : Nat, k = i ∧ i ≤ n3 ∧ q = n3 - i ∧ x.writes.take i = y.writes.take i ∧ St w [] u [fBlk qb [.int .i64 y.proc, .slice b1 n1 d1, .slice b2 n2 d2, .slice b3 n3 d3], fBlk pb [.int .i64 x.proc, .slice a1 n1 c1, .slice a2 n2 c2, .slice a3 n3 c3]], ⟨n3, 0, rfl, by omega, rfl, rfl, hS⟩, ?_⟩
  clear hS htk
  rintro q w43 k ⟨t, rfl, ht, rfl, htk, hS⟩
  refine ⟨a3, n3, c3, cx 3 hS, ?_⟩
  by_cases hlt : t < n3
  · rw [bif_pos (by omega)]
    rintro w46 rfl
    replace hS := hS.drew
    generalize w43.drew = w46 at *
    refine ⟨a3, n3, c3, cx 3 hS, by omega, by omega, ?_⟩
    rw [Int.toNat_natCast]
    have w1 : x.writes[t]? = some (x.writes[t]'(by omega)) := List.getElem?_eq_getElem (by omega)
    have w2 : y.writes[t]? = some (y.writes[t]'(by omega)) := List.getElem?_eq_getElem (by omega)
    refine (h3.tch hS.tch (by simp)).1.elem kC_len (by omega) w1 ?_
    refine ⟨b3, n3, d3, cy 3 hS, by omega, by omega, ?_⟩
    refine (g3.tch hS.tch (by simp)).1.elem kC_len (by omega) w2 ?_
    refine neq_flat_d key_flat key_eqT (key_fits (hxo.writes _ (List.mem_of_getElem? w1))) (key_fits (hyo.writes _ (List.mem_of_getElem? w2))) kC_inj ?_
    by_cases hd : x.writes[t]'(by omega) = y.writes[t]'(by omega)
    · rw [bif_npos hd]
      exact ⟨n3 - (t + 1), by omega, t + 1, by rw [wrap_i64 (by omega) (by omega)]; omega, by omega, rfl, snoc htk (by rw [w1, w2, hd]), hS⟩
    · rw [bif_nneg hd]
      exact no (fun h => hd (by subst h; rfl)) hS.tch
  rw [bif_neg (by omega)]
  have hw : x.writes = y.writes := by
    rw [List.take_of_length_le (by omega), List.take_of_length_le (by omega)] at htk
    exact htk
  refine ⟨?_, hS.tch⟩
  rw [decide_eq_true]
  cases x; cases y
  simp_all
def Smalls (l : List Tx) : Prop := l.length ≤ 100000 ∧ ∀ x ∈ l, Sm x
theorem sameBatch_c {F G : Nat → Prop} (w : World) (a b : Option Addr) (n c m mc : Nat) (l k : List Tx) (h : BatchV F w a n c l) (g : BatchV G w b m mc k) (hs : Smalls l) :
    Calls Tryd.prog 53 #[.slice a n c, .slice b m mc] w fun e w' => e = .returned (.bool (decide (l = k))) ∧ Tch [] w w' := by
  have hn := h.count
  have hm := g.count
  have hs0 := hs.1
  refine c53 _ _ _ _ _ _ ?_
  unfold d53
  by_cases he : n = m
  rotate_left
  · rw [bif_nneg (by omega)]
    exact ⟨by rw [decide_eq_false fun h => he (by rw [← hn, ← hm, h])], Tch.refl _ _⟩
  subst he
  rw [bif_npos rfl]
  refine ⟨fun q x u => ∃ i : Nat, x = i ∧ i ≤ n ∧ q = n - i ∧ l.take i = k.take i ∧ Tch [] w u, ⟨n, 0, rfl, by omega, rfl, rfl, Tch.refl _ _⟩, ?_⟩
  rintro q w4 x ⟨i, rfl, hi, rfl, htk, ht⟩
  by_cases hlt : i < n
  · rw [bif_pos (by omega)]
    rintro w6 rfl
    replace ht := ht.drew
    generalize w4.drew = w6 at *
    refine ⟨by omega, by omega, ?_⟩
    rw [Int.toNat_natCast]
    have w1 : l[i]? = some (l[i]'(by omega)) := List.getElem?_eq_getElem (by omega)
    have w2 : k[i]? = some (k[i]'(by omega)) := List.getElem?_eq_getElem (by omega)
    refine h.elemW ht w1 fun u hu => ?_
    refine ⟨by omega, by omega, ?_⟩
    refine g.elemW ht w2 fun v hv => ?_
    refine (sameTx_c w6 u v _ _ (hu.quiet ht) (hv.quiet ht) (hs.2 _ (List.mem_of_getElem? w1))).mono ?_
    rintro e w12 ⟨rfl, ht2⟩
    refine ⟨_, rfl, ?_⟩
    replace ht := ht.trans ht2 (by simp)
    by_cases hd : l[i]'(by omega) = k[i]'(by omega)
    · rw [bif_npos hd]
      refine ⟨n - (i + 1), by omega, i + 1, by rw [wrap_i64 (by omega) (by omega)]; omega, by omega, rfl, ?_, ht⟩
      rw [List.take_add_one, List.take_add_one, htk, w1, w2, hd]
    · rw [bif_nneg hd]
      exact ⟨by rw [decide_eq_false fun h => hd (by subst h; rfl)], ht⟩
  · rw [bif_neg (by omega)]
    rw [List.take_of_length_le (by omega), List.take_of_length_le (by omega)] at htk
    exact ⟨by rw [decide_eq_true htk], ht⟩

theorem sameBytes_c (w : World) (xs ys : List Int) (a b : Option Addr) (n c m mc : Nat) (hx : RSl w 1 a n c (u8 xs)) (hy : RSl w 1 b m mc (u8 ys)) (hN : n ≤ 140737488351232) :
    Calls Tryd.prog 17 #[.slice a n c, .slice b m mc] w fun e w' => e = .returned (.bool (decide (xs = ys))) ∧ Tch [] w w' := by
  have hn := u8_len hx
  have hm := u8_len hy
  refine c17 _ _ _ _ _ _ ?_
  unfold d17
  by_cases he : n = m
  · subst he
    rw [bif_npos rfl]
    refine ⟨fun q x w' => ∃ k : Nat, k ≤ n ∧ x = k ∧ q = n - k ∧ xs.take k = ys.take k ∧ Tch [] w w', ⟨n, 0, by omega, rfl, rfl, rfl, Tch.refl _ _⟩, ?_⟩
    rintro q w4 x ⟨k, hk, rfl, rfl, htk, ht⟩
    by_cases hlt : k < n
    · rw [bif_pos (by omega)]
      rintro w6 rfl
      obtain ⟨b1, o1, rfl, g1⟩ := (hx.below ht.drew.below).int (i := k) hlt
      obtain ⟨b2, o2, rfl, g2⟩ := (hy.below ht.drew.below).int (i := k) hlt
      simp only [optK, add_mk, Nat.mul_one, Int.toNat_natCast]
      refine ⟨by omega, by omega, _, g1, by omega, by omega, _, g2, ?_⟩
      by_cases hd : xs.getD k 0 = ys.getD k 0
      · rw [bif_npos hd, wrap_i64 (by omega) (by omega)]
        refine ⟨n - (k + 1), by omega, k + 1, by omega, by omega, rfl, ?_, ht.drew⟩
        rw [List.take_succ_eq_append_getElem (by omega), List.take_succ_eq_append_getElem (by omega), htk]
        have h1 : k < xs.length := by omega
        have h2 : k < ys.length := by omega
        simp only [List.getD_eq_getElem?_getD, List.getElem?_eq_getElem h1, List.getElem?_eq_getElem h2, Option.getD_some] at hd
        rw [hd]
      · rw [bif_nneg hd]
        refine ⟨?_, ht.drew⟩
        rw [decide_eq_false fun e => hd (by rw [e])]
    · rw [bif_neg (by omega)]
      have : k = n := by omega
      subst this
      rw [List.take_of_length_le (by omega), List.take_of_length_le (by omega)] at htk
      exact ⟨by rw [decide_eq_true htk], ht⟩
  · rw [bif_nneg (by omega)]
    exact ⟨by rw [decide_eq_false fun e => he (by rw [← hn, ← hm, e])], Tch.refl _ _⟩
theorem samePiece_c {F G : Nat → Prop} (w : World) (i n j m : Int) (a b : Option Addr) (an ac bn bc : Nat) (l k : List Tx) (h : BatchV F w a an ac l) (g : BatchV G w b bn bc k) (hs : Smalls l) :
    Calls Tryd.prog 22 #[.agg #[.int .i64 i, .int .i64 n, .slice a an ac], .agg #[.int .i64 j, .int .i64 m, .slice b bn bc]] w fun e w' => e = .returned (.bool (decide (i = j ∧ n = m ∧ l = k))) ∧ Tch [] w w' := by
  refine c22 _ _ ?_
  unfold d22
  rintro w2 rfl
  have hP : Blk _ _ [Value.int .i64 i, .int .i64 n, .slice a an ac] := Blk.fresh w (cs := [Value.int .i64 i, .int .i64 n, .slice a an ac]) 37 rfl
  have t1 := (Tch.refl [] w).alloc (.cells #[Value.int .i64 i, .int .i64 n, .slice a an ac] 37)
  generalize w.alloc (.cells #[Value.int .i64 i, .int .i64 n, .slice a an ac] 37) = w2 at *
  generalize w.heap.size = pb at *
  rintro w3 rfl
  have hQ : Blk _ _ [Value.int .i64 j, .int .i64 m, .slice b bn bc] := Blk.fresh w2 (cs := [Value.int .i64 j, .int .i64 m, .slice b bn bc]) 37 rfl
  have t2 := (Tch.refl [] w2).alloc (.cells #[Value.int .i64 j, .int .i64 m, .slice b bn bc] 37)
  generalize w2.alloc (.cells #[Value.int .i64 j, .int .i64 m, .slice b bn bc] 37) = w3 at *
  generalize w2.heap.size = qb at *
  replace hP := hP.tch t2 (by simp)
  have t := t1.trans t2 (by simp)
  refine ⟨i, by rw [add_mk]; exact hP.cell 0, j, by rw [add_mk]; exact hQ.cell 0, ?_⟩
  by_cases h1 : i = j
  rotate_left
  · rw [bif_neg h1]; exact ⟨by rw [decide_eq_false fun hh => h1 hh.1], t⟩
  rw [bif_pos h1]
  refine ⟨n, by rw [add_mk]; exact hP.cell 1, m, by rw [add_mk]; exact hQ.cell 1, ?_⟩
  by_cases h2 : n = m
  rotate_left
  · rw [bif_neg h2]; exact ⟨by rw [decide_eq_false fun hh => h2 hh.2.1], t⟩
  rw [bif_pos h2]
  refine ⟨a, an, ac, by rw [add_mk]; exact hP.cell 2, b, bn, bc, by rw [add_mk]; exact hQ.cell 2, ?_⟩
  refine (sameBatch_c w3 a b an ac bn bc l k (h.quiet t) (g.quiet t) hs).mono ?_
  rintro e w11 ⟨rfl, t3⟩
  exact ⟨_, rfl, by rw [show decide (l = k) = decide (i = j ∧ n = m ∧ l = k) from decide_eq_decide.2 ⟨fun h => ⟨h1, h2, h⟩, fun h => h.2.2⟩], t.trans t3 (by simp)⟩
theorem want_flat : flatK Tryd.prog 2 59 = some [.int .i64, .int .i64] := by kernel_rfl
theorem want_eqT : eqT Tryd.prog 2 59 = true := by kernel_rfl
theorem sameWants_c (w : World) (l k : List (Int × Int)) (a b : Option Addr) (n c m mc : Nat) (h : RSl w 2 a n c (rows kC l)) (g : RSl w 2 b m mc (rows kC k)) (hl : ∀ x ∈ l, kI x) (hk : ∀ x ∈ k, kI x) (hN : n ≤ 140737488355328) :
    Calls Tryd.prog 23 #[.slice a n c, .slice b m mc] w fun e w' => e = .returned (.bool (decide (l = k))) ∧ Tch [] w w' := by
  have hn : l.length = n := h.count kC_len (by omega)
  have hm : k.length = m := g.count kC_len (by omega)
  refine c23 _ _ _ _ _ _ ?_
  unfold d23
  by_cases he : n = m
  rotate_left
  · rw [bif_nneg (by omega)]
    exact ⟨by rw [decide_eq_false fun h => he (by rw [← hn, ← hm, h])], Tch.refl _ _⟩
  subst he
  rw [bif_npos rfl]
  refine ⟨fun q x u => ∃ i : Nat, x = i ∧ i ≤ n ∧ q = n - i ∧ l.take i = k.take i ∧ Tch [] w u, ⟨n, 0, rfl, by omega, rfl, rfl, Tch.refl _ _⟩, ?_⟩
  rintro q w4 x ⟨i, rfl, hi, rfl, htk, ht⟩
  by_cases hlt : i < n
  · rw [bif_pos (by omega)]
    rintro w6 rfl
    replace ht := ht.drew
    generalize w4.drew = w6 at *
    refine ⟨by omega, by omega, ?_⟩
    rw [Int.toNat_natCast]
    have w1 : l[i]? = some (l[i]'(by omega)) := List.getElem?_eq_getElem (by omega)
    have w2 : k[i]? = some (k[i]'(by omega)) := List.getElem?_eq_getElem (by omega)
    have m1 := hl _ (List.mem_of_getElem? w1)
    have m2 := hk _ (List.mem_of_getElem? w2)
    refine (h.tch ht (fun _ _ h => by cases h)).elem kC_len (by omega) w1 ?_
    refine ⟨by omega, by omega, ?_⟩
    refine (g.tch ht (fun _ _ h => by cases h)).elem kC_len (by omega) w2 ?_
    refine neq_flat_d want_flat want_eqT (key_fits m1) (key_fits m2) kC_inj ?_
    by_cases hd : l[i]'(by omega) = k[i]'(by omega)
    · rw [bif_npos hd]
      refine ⟨n - (i + 1), by omega, i + 1, by rw [wrap_i64 (by omega) (by omega)]; omega, by omega, rfl, ?_, ht⟩
      rw [List.take_add_one, List.take_add_one, htk, w1, w2, hd]
    · rw [bif_nneg hd]
      exact ⟨by rw [decide_eq_false fun h => hd (by subst h; rfl)], ht⟩
  · rw [bif_neg (by omega)]
    rw [List.take_of_length_le (by omega), List.take_of_length_le (by omega)] at htk
    exact ⟨by rw [decide_eq_true htk], ht⟩
end Go.Proofs.YtjchneebdlncfaaDoor.Frm
namespace Go.Proofs.YtjchneebdlncfaaDoor.Frm
open Go Den Fn Lib
open Go.RowKit (Below)
open Classical
set_option maxRecDepth 8000
set_option maxHeartbeats 4000000
theorem kCs_ones {l : List (Int × Int)} : ∀ u ∈ rows kC l, one u = true := by
  intro u hu
  simp only [rows, List.mem_flatten, List.mem_map] at hu
  obtain ⟨r, ⟨k, _, rfl⟩, hu⟩ := hu
  exact kC_one u hu
/-- No longer than memory. -/
def Mid (l : List Tx) : Prop := l.length ≤ 140737488355328 ∧ ∀ x ∈ l, x.args.length ≤ 140737488355328 ∧ x.reads.length ≤ 140737488355328 ∧ x.writes.length ≤ 140737488355328
end Go.Proofs.YtjchneebdlncfaaDoor.Frm
namespace Go.Proofs.YtjchneebdlncfaaDoor.Frm
open Go Den Fn Lib
open Go.RowKit (Below)
open Classical
set_option maxRecDepth 8000
set_option maxHeartbeats 8000000
/-- A decoded piece, as it lies in a variable. -/
def pcC (D : Option (Int × Int × List Tx)) (a : Option Addr) (k c : Nat) : List Value := match D with
  | none => [.int .i64 0, .int .i64 0, .slice none 0 0]
  | some (i, n, _) => [.int .i64 i, .int .i64 n, .slice a k c]
def pcE (D : Option (Int × Int × List Tx)) : Int := match D with | none => 264 | some _ => 0
def pcL (D : Option (Int × Int × List Tx)) : List Tx := match D with | none => [] | some (_, _, l) => l
theorem pcC_len {D : Option (Int × Int × List Tx)} {a : Option Addr} {k c : Nat} : (pcC D a k c).length = 3 := by
  unfold pcC
  split <;> rfl
theorem pcC_ones {D : Option (Int × Int × List Tx)} {a : Option Addr} {k c : Nat} : ∀ u ∈ pcC D a k c, one u = true := by
  unfold pcC
  split <;> simp [one]
theorem PieceO.out {w w' : World} {D : Option (Int × Int × List Tx)} {en : Ending} (h : PieceO w D en w') : Tch [] w w' ∧ ∃ a k c, en = .returned (.tuple #[.agg (pcC D a k c).toArray, .int .i64 (pcE D)]) ∧ (D ≠ none → BatchV (Btw2 w.heap.size w'.heap.size) w' a k c (pcL D)) := by
  obtain ⟨h1, h2⟩ := h
  refine ⟨h1, ?_⟩
  match D, h2 with
  | none, h2 => exact ⟨none, 0, 0, h2, fun h => absurd rfl h⟩
  | some (i, n, l), ⟨a, k, c, h2, h3⟩ => exact ⟨a, k, c, h2, fun _ => h3⟩
def wtE (D : Option (List (Int × Int))) : Int := match D with | none => 264 | some _ => 0
def wtL (D : Option (List (Int × Int))) : List (Int × Int) := match D with | none => [] | some l => l
theorem WantsO.out {w w' : World} {D : Option (List (Int × Int))} {en : Ending} (h : WantsO w D en w') : Tch [] w w' ∧ ∃ a c, en = .returned (.tuple #[.slice a (wtL D).length c, .int .i64 (wtE D)]) ∧ w'.ownsRow w.heap.size 59 2 (.slice a (wtL D).length c) (wtL D).length (rows kC (wtL D)) := by
  obtain ⟨h1, h2⟩ := h
  refine ⟨h1, ?_⟩
  match D, h2 with
  | none, h2 => exact ⟨none, 0, h2, own_nil _ _ _ _⟩
  | some l, ⟨a, c, h2, h3⟩ => exact ⟨a, c, h2, h3⟩
theorem sealS_len (k : Int) (l : List Int) : (sealS k l).length ≤ 16777229 := by
  unfold sealS
  split
  · simp
  · simp only [List.length_append, headS, fourS, List.length_cons, List.length_nil]
    omega
theorem pieceE_len (i n : Int) (l : List Tx) : (pieceE i n l).1.length ≤ 16777229 := by
  unfold pieceE
  split
  · simp
  split
  · simp
  exact sealS_len _ _
theorem wantsE_len (l : List (Int × Int)) : (wantsE l).1.length ≤ 16777229 := by
  unfold wantsE
  split
  · simp
  split
  · simp
  exact sealS_len _ _
end Go.Proofs.YtjchneebdlncfaaDoor.Frm
namespace Go.Proofs.YtjchneebdlncfaaDoor.Lib
open Go Den
open Classical
set_option maxRecDepth 8000
theorem drop_step {bs a r : List Int} {p : Nat} (h : bs.drop p = a ++ r) : bs.drop (p + a.length) = r := by
  rw [← List.drop_drop, h, List.drop_left]
theorem drop_len {bs a r : List Int} {p : Nat} (h : bs.drop p = a ++ r) (ha : 0 < a.length) : p + a.length ≤ bs.length := by
  have := congrArg List.length h
  rw [List.length_drop, List.length_append] at this
  omega
theorem rUpto_uv {bs r : List Int} {most p n : Nat} (h : bs.drop p = uv n ++ r) (hn : n ≤ most) (hn2 : n < 18446744073709551616) : rUpto bs most p 0 = (n, p + (uv n).length, 0) := by
  unfold rUpto
  rw [h, number_uv hn2, if_neg (by simp), if_neg (by simp), if_neg (by simpa using hn)]
theorem rUpto_back {bs : List Int} (hB : Bytes bs) {most p : Nat} (h : (rUpto bs most p 0).2.2 = 0) : (rUpto bs most p 0).1 ≤ most ∧ (rUpto bs most p 0).1 < 18446744073709551616 ∧ bs.drop p = uv (rUpto bs most p 0).1 ++ bs.drop (rUpto bs most p 0).2.1 := by
  unfold rUpto at h ⊢
  rw [if_neg (by simp)] at h ⊢
  by_cases h1 : (number (bs.drop p)).2.2 ≠ 0
  · rw [if_pos h1] at h; exact absurd h h1
  rw [if_neg h1] at h ⊢
  by_cases h2 : most < (number (bs.drop p)).1
  · rw [if_pos h2] at h; simp at h
  rw [if_neg h2]
  have hb := number_back (hB.drop p) (by simpa using h1)
  have hr := number_range (hB.drop p)
  refine ⟨by simp only; omega, hr.1, ?_⟩
  simp only
  rw [← hb.1, ← List.drop_drop, List.take_append_drop]
theorem rInt_iv {bs r : List Int} {p : Nat} {n : Int} (h : bs.drop p = iv n ++ r) (hn : I64 n) : rInt bs p 0 = (n, p + (iv n).length, 0) := by
  unfold rInt
  have := fold_range hn
  rw [rUpto_uv (most := 18446744073709551615) h (by omega) this]
  simp only [unfold_fold]
  rfl
theorem rInt_back {bs : List Int} (hB : Bytes bs) {p : Nat} (h : (rInt bs p 0).2.2 = 0) : I64 (rInt bs p 0).1 ∧ bs.drop p = iv (rInt bs p 0).1 ++ bs.drop (rInt bs p 0).2.1 := by
  have := rUpto_back hB (most := 18446744073709551615) (p := p) h
  refine ⟨unfold_range this.2.1, ?_⟩
  show bs.drop p = uv (fold (unfold' _)) ++ _
  rw [fold_unfold]
  exact this.2.2
abbrev kb (k : Int × Int) : List Int := keyB k.1 k.2
theorem kb_len (k : Int × Int) : (kb k).length = 10 := keyB_length _ _
theorem kOf_kb {bs r : List Int} {p : Nat} {k : Int × Int} (h : bs.drop p = kb k ++ r) (hk : KeyOk k.1) (hi : I64 k.2) : kOf bs p = k := by
  unfold kOf
  rw [h, List.take_left' (kb_len k), fromB_keyB hk hi]
theorem kS_there {bs r : List Int} : ∀ {l : List (Int × Int)} {p : Nat} {acc : List (Int × Int)}, bs.drop p = (l.map kb).flatten ++ r → (∀ k ∈ l, I64 k.2) → RisesS (acc ++ l) → kS bs l.length p acc = (acc ++ l, p + (l.map kb).flatten.length, 0)
  | [], p, acc, _, _, _ => by simp [kS]
  | k :: l, p, acc, h, hi, hr => by
    rw [List.map_cons, List.flatten_cons, List.append_assoc] at h
    have hl := drop_len h (by rw [kb_len]; omega)
    rw [kb_len] at hl
    have hkk : KeyOk k.1 := hr.1 k (by simp)
    have hk := kOf_kb h hkk (hi k (by simp))
    have hraw : rRaw bs 10 p 0 = ((bs.drop p).take 10, p + 10, 0) := by
      rcases raw10 bs p with g | g
      · exact g.2
      · exact absurd hl g.1
    have hnc : ¬ clash acc k := by
      rintro ⟨x, hx, hc⟩
      have hne : acc ≠ [] := by rintro rfl; simp at hx
      have hlen := List.length_pos_iff.2 hne
      rw [List.getLast?_eq_getElem?] at hx
      have := hr.2 (acc.length - 1) x k (by rw [List.getElem?_append_left (by omega)]; exact hx) (by rw [List.getElem?_append_right (by omega), show acc.length - 1 + 1 - acc.length = 0 by omega]; rfl)
      omega
    show kS bs (l.length + 1) p acc = _
    unfold kS
    rw [hraw, if_neg (by simp), hk, if_neg hnc]
    have ih := kS_there (l := l) (p := p + 10) (acc := acc ++ [k]) (by have := drop_step h; rwa [kb_len] at this) (fun x hx => hi x (by simp [hx])) (by simpa using hr)
    rw [ih]
    simp only [List.map_cons, List.flatten_cons, List.length_append, kb_len, List.append_assoc, List.singleton_append]
    rw [Nat.add_assoc]
theorem rises_snoc {acc : List (Int × Int)} {k : Int × Int} (h : RisesS acc) (hk : KeyOk k.1) (hc : ¬ clash acc k) : RisesS (acc ++ [k]) := by
  refine ⟨fun x hx => ?_, fun i a b ha hb => ?_⟩
  · rcases List.mem_append.1 hx with hx | hx
    · exact h.1 x hx
    · rw [List.mem_singleton.1 hx]; exact hk
  · by_cases hi : i + 1 < acc.length
    · rw [List.getElem?_append_left (by omega)] at ha hb
      exact h.2 i a b ha hb
    · have hib : i + 1 < (acc ++ [k]).length := (List.getElem?_eq_some_iff.1 hb).1
      simp only [List.length_append, List.length_singleton] at hib
      rw [List.getElem?_append_left (by omega)] at ha
      rw [List.getElem?_append_right (by omega), show i + 1 - acc.length = 0 by omega] at hb
      obtain rfl : k = b := by simpa using hb
      exact Classical.byContradiction fun hh => hc ⟨a, by rw [List.getLast?_eq_getElem?, show acc.length - 1 = i by omega]; exact ha, by omega⟩
theorem kS_back {bs : List Int} (hB : Bytes bs) : ∀ {m p : Nat} {acc L : List (Int × Int)} {p' : Nat}, kS bs m p acc = (L, p', 0) → p ≤ bs.length → RisesS acc → ∃ l, L = acc ++ l ∧ l.length = m ∧ RisesS L ∧ bs.drop p = (l.map kb).flatten ++ bs.drop p' ∧ p' ≤ bs.length
  | 0, p, acc, L, p', h, hp, hr => by
    simp only [kS, Prod.mk.injEq] at h
    obtain ⟨rfl, rfl, _⟩ := h
    exact ⟨[], by simp, rfl, hr, by simp, hp⟩
  | m + 1, p, acc, L, p', h, hp, hr => by
    unfold kS at h
    rcases raw10 bs p with ⟨h10, hraw⟩ | g
    · rw [hraw, if_neg (by simp)] at h
      by_cases hc : clash acc (kOf bs p)
      · rw [if_pos hc] at h; simp at h
      rw [if_neg hc] at h
      have hk := kOf_ok hB p
      obtain ⟨l, h1, h2, h3, h4, h5⟩ := kS_back hB h h10 (rises_snoc hr hk.1 hc)
      refine ⟨kOf bs p :: l, by rw [h1]; simp, by simp [h2], h3, ?_, h5⟩
      have e : kb (kOf bs p) = (bs.drop p).take 10 := keyB_fromB (by rw [List.length_take, List.length_drop]; omega) ((hB.drop p).take 10)
      rw [List.map_cons, List.flatten_cons, List.append_assoc, ← h4, e, ← List.drop_drop, List.take_append_drop]
    · rw [if_pos g.2.2.2] at h
      simp only [Prod.mk.injEq] at h
      exact absurd h.2.2 g.2.2.2
theorem keysS_there {bs r : List Int} {l : List (Int × Int)} {p : Nat} (h : bs.drop p = encKs l ++ r) (hl : l.length ≤ 16) (hi : ∀ k ∈ l, I64 k.2) (hr : RisesS l) : keysS bs p = (l, p + (encKs l).length, 0) := by
  unfold encKs at h
  rw [List.append_assoc] at h
  unfold keysS
  rw [rUpto_uv h hl (by omega), if_neg (by simp)]
  simp only
  have := kS_there (acc := []) (drop_step h) hi (by simpa using hr)
  rw [this]
  unfold encKs
  rw [List.length_append, List.nil_append, Nat.add_assoc]
theorem keysS_back {bs : List Int} (hB : Bytes bs) {p : Nat} (hp : p ≤ bs.length) (h : (keysS bs p).2.2 = 0) : (keysS bs p).1.length ≤ 16 ∧ RisesS (keysS bs p).1 ∧ bs.drop p = encKs (keysS bs p).1 ++ bs.drop (keysS bs p).2.1 ∧ (keysS bs p).2.1 ≤ bs.length := by
  unfold keysS at h ⊢
  by_cases h1 : (rUpto bs 16 p 0).2.2 ≠ 0
  · rw [if_pos h1] at h; exact absurd h h1
  rw [if_neg h1] at h ⊢
  obtain ⟨a1, a2, a3⟩ := rUpto_back hB (by simpa using h1 : (rUpto bs 16 p 0).2.2 = 0)
  have hle := rUpto_le hB (most := 16) (e := 0) hp
  generalize rUpto bs 16 p 0 = u at *
  generalize hK : kS bs u.1 u.2.1 [] = K at *
  obtain ⟨L, p', e⟩ := K
  simp only at h
  subst h
  obtain ⟨l, g1, g2, g3, g4, g5⟩ := kS_back hB hK hle.1 ⟨by simp, fun i a b ha => by simp at ha⟩
  rw [List.nil_append] at g1
  subst g1
  refine ⟨by show L.length ≤ 16; omega, g3, ?_, g5⟩
  show bs.drop p = (uv L.length ++ (L.map kb).flatten) ++ bs.drop p'
  rw [List.append_assoc, ← g4, g2]
  exact a3
theorem aS_there {bs r : List Int} : ∀ {l : List Int} {p : Nat} {acc : List Int}, bs.drop p = (l.map iv).flatten ++ r → (∀ v ∈ l, I64 v) → aS bs l.length p acc = (acc ++ l, p + (l.map iv).flatten.length, 0)
  | [], p, acc, _, _ => by simp [aS]
  | v :: l, p, acc, h, hi => by
    rw [List.map_cons, List.flatten_cons, List.append_assoc] at h
    have hv := rInt_iv h (hi v (by simp))
    show aS bs (l.length + 1) p acc = _
    unfold aS
    rw [hv, if_neg (by simp)]
    have ih := aS_there (l := l) (acc := acc ++ [v]) (drop_step h) (fun x hx => hi x (by simp [hx]))
    simp only
    rw [ih]
    simp only [List.map_cons, List.flatten_cons, List.length_append, List.append_assoc, List.singleton_append]
    rw [Nat.add_assoc]
theorem aS_back {bs : List Int} (hB : Bytes bs) : ∀ {m p : Nat} {acc L : List Int} {p' : Nat}, aS bs m p acc = (L, p', 0) → p ≤ bs.length → ∃ l, L = acc ++ l ∧ l.length = m ∧ (∀ v ∈ l, I64 v) ∧ bs.drop p = (l.map iv).flatten ++ bs.drop p' ∧ p' ≤ bs.length
  | 0, p, acc, L, p', h, hp => by
    simp only [aS, Prod.mk.injEq] at h
    obtain ⟨rfl, rfl, _⟩ := h
    exact ⟨[], by simp, rfl, by simp, by simp, hp⟩
  | m + 1, p, acc, L, p', h, hp => by
    unfold aS at h
    by_cases h1 : (rInt bs p 0).2.2 ≠ 0
    · rw [if_pos h1] at h
      simp only [Prod.mk.injEq] at h
      exact absurd h.2.2 h1
    rw [if_neg h1] at h
    have hb := rInt_back hB (by simpa using h1 : (rInt bs p 0).2.2 = 0)
    obtain ⟨l, g1, g2, g3, g4, g5⟩ := aS_back hB h (rInt_le hB hp).1
    refine ⟨(rInt bs p 0).1 :: l, by rw [g1]; simp, by simp [g2], fun v hv => ?_, ?_, g5⟩
    · rcases List.mem_cons.1 hv with rfl | hv
      · exact hb.1
      · exact g3 v hv
    · rw [List.map_cons, List.flatten_cons, List.append_assoc, ← g4]
      exact hb.2
theorem txS_there {bs r : List Int} {x : Tx} {p : Nat} (h : bs.drop p = encTx x ++ r) (hg : Good x) (ho : x.ok) : txS bs p = (x, p + (encTx x).length, 0) := by
  obtain ⟨⟨g1, g2⟩, g3, g4, g5, g6, g7⟩ := hg
  unfold encTx at h
  simp only [List.append_assoc] at h
  unfold txS tx1
  rw [rUpto_uv (most := 63) h (by omega) (by omega), if_neg (by simp)]
  have h2 := drop_step h
  simp only
  unfold tx2
  rw [rUpto_uv (most := 16) h2 g3 (by omega), if_neg (by simp)]
  have h3 := drop_step h2
  simp only
  unfold tx3
  rw [aS_there h3 ho.args, if_neg (by simp)]
  have h4 := drop_step h3
  simp only
  unfold tx4
  rw [keysS_there h4 g4 (fun k hk => (ho.reads k hk).2) g6, if_neg (by simp)]
  have h5 := drop_step h4
  simp only
  unfold tx5
  rw [keysS_there h5 g5 (fun k hk => (ho.writes k hk).2) g7, if_neg (by simp)]
  have ep : ((x.proc.toNat : Nat) : Int) = x.proc := by omega
  simp only [List.nil_append, ep]
  unfold encTx
  simp only [List.length_append]
  refine Prod.ext rfl (Prod.ext ?_ rfl)
  simp only
  omega
theorem txS_back {bs : List Int} (hB : Bytes bs) {p : Nat} (hp : p ≤ bs.length) (h : (txS bs p).2.2 = 0) : Good (txS bs p).1 ∧ bs.drop p = encTx (txS bs p).1 ++ bs.drop (txS bs p).2.1 ∧ (txS bs p).2.1 ≤ bs.length := by
  unfold txS tx1 at h ⊢
  by_cases h1 : (rUpto bs 63 p 0).2.2 ≠ 0
  · rw [if_pos h1] at h; exact absurd h h1
  rw [if_neg h1] at h ⊢
  obtain ⟨a1, _, a3⟩ := rUpto_back hB (by simpa using h1 : (rUpto bs 63 p 0).2.2 = 0)
  have l1 := rUpto_le hB (most := 63) (e := 0) hp
  generalize rUpto bs 63 p 0 = u at *
  unfold tx2 at h ⊢
  by_cases h2 : (rUpto bs 16 u.2.1 0).2.2 ≠ 0
  · rw [if_pos h2] at h; exact absurd h h2
  rw [if_neg h2] at h ⊢
  obtain ⟨b1, _, b3⟩ := rUpto_back hB (by simpa using h2 : (rUpto bs 16 u.2.1 0).2.2 = 0)
  have l2 := rUpto_le hB (most := 16) (e := 0) l1.1
  generalize rUpto bs 16 u.2.1 0 = v at *
  unfold tx3 at h ⊢
  by_cases h3 : (aS bs v.1 v.2.1 []).2.2 ≠ 0
  · rw [if_pos h3] at h; exact absurd h h3
  rw [if_neg h3] at h ⊢
  generalize hA : aS bs v.1 v.2.1 [] = A at *
  obtain ⟨A1, p3, e3⟩ := A
  obtain rfl : e3 = 0 := by simpa using h3
  obtain ⟨l, c1, c2, c3, c4, c5⟩ := aS_back hB hA l2.1
  rw [List.nil_append] at c1
  subst c1
  unfold tx4 at h ⊢
  simp only at h ⊢
  by_cases h4 : (keysS bs p3).2.2 ≠ 0
  · rw [if_pos h4] at h; exact absurd h h4
  rw [if_neg h4] at h ⊢
  obtain ⟨d1, d2, d3, d4⟩ := keysS_back hB c5 (by simpa using h4 : (keysS bs p3).2.2 = 0)
  generalize keysS bs p3 = R at *
  unfold tx5 at h ⊢
  by_cases h5 : (keysS bs R.2.1).2.2 ≠ 0
  · rw [if_pos h5] at h; exact absurd h h5
  rw [if_neg h5] at h ⊢
  obtain ⟨f1, f2, f3, f4⟩ := keysS_back hB d4 (by simpa using h5 : (keysS bs R.2.1).2.2 = 0)
  generalize keysS bs R.2.1 = W at *
  refine ⟨⟨⟨by simp only; omega, by simp only; omega⟩, by simp only; omega, d1, f1, d2, f2⟩, ?_, f4⟩
  unfold encTx
  simp only [Int.toNat_natCast, List.append_assoc]
  rw [← f3, ← d3, ← c4, c2, ← b3]
  exact a3
theorem txsS_there {bs r : List Int} : ∀ {l : List Tx} {p : Nat} {acc : List Tx}, bs.drop p = encTxs l ++ r → (∀ x ∈ l, Good x ∧ x.ok) → txsS bs l.length p acc = (acc ++ l, p + (encTxs l).length, 0)
  | [], p, acc, _, _ => by simp [txsS, encTxs]
  | x :: l, p, acc, h, hi => by
    have e : encTxs (x :: l) = encTx x ++ encTxs l := rfl
    rw [e, List.append_assoc] at h
    obtain ⟨hg, ho⟩ := hi x (by simp)
    show txsS bs (l.length + 1) p acc = _
    unfold txsS
    rw [txS_there h hg ho, if_neg (by simp)]
    simp only
    rw [txsS_there (l := l) (acc := acc ++ [x]) (drop_step h) (fun y hy => hi y (by simp [hy])), e]
    simp only [List.length_append, List.append_assoc, List.singleton_append]
    rw [Nat.add_assoc]
theorem txsS_back {bs : List Int} (hB : Bytes bs) : ∀ {m p : Nat} {acc L : List Tx} {p' : Nat}, txsS bs m p acc = (L, p', 0) → p ≤ bs.length → ∃ l, L = acc ++ l ∧ l.length = m ∧ (∀ x ∈ l, Good x) ∧ bs.drop p = encTxs l ++ bs.drop p' ∧ p' ≤ bs.length
  | 0, p, acc, L, p', h, hp => by
    simp only [txsS, Prod.mk.injEq] at h
    obtain ⟨rfl, rfl, _⟩ := h
    exact ⟨[], by simp, rfl, by simp, by simp [encTxs], hp⟩
  | m + 1, p, acc, L, p', h, hp => by
    unfold txsS at h
    by_cases h1 : (txS bs p).2.2 ≠ 0
    · rw [if_pos h1] at h
      simp only [Prod.mk.injEq] at h
      exact absurd h.2.2 h1
    rw [if_neg h1] at h
    obtain ⟨b1, b2, b3⟩ := txS_back hB hp (by simpa using h1 : (txS bs p).2.2 = 0)
    obtain ⟨l, g1, g2, g3, g4, g5⟩ := txsS_back hB h b3
    refine ⟨(txS bs p).1 :: l, by rw [g1]; simp, by simp [g2], fun y hy => ?_, ?_, g5⟩
    · rcases List.mem_cons.1 hy with rfl | hy
      · exact b1
      · exact g3 y hy
    · show bs.drop p = (encTx (txS bs p).1 ++ encTxs l) ++ bs.drop p'
      rw [List.append_assoc, ← g4]
      exact b2
/-- What is encoded is decoded to what it was. -/
theorem dec_enc {l : List Tx} (h : (encB l).2 = 0) (ho : ∀ x ∈ l, x.ok) : decS (encB l).1 = (l, 0, 0) := by
  have hg := (encB_zero l).1 h
  rw [encB_good hg]
  simp only
  unfold decS dec1
  have e0 : (uv l.length ++ encTxs l).drop 0 = uv l.length ++ encTxs l := rfl
  rw [rUpto_uv (most := 64) e0 hg.1 (by omega), if_neg (by simp)]
  simp only
  have e1 : (uv l.length ++ encTxs l).drop (0 + (uv l.length).length) = encTxs l ++ [] := by rw [List.append_nil]; exact drop_step e0
  rw [txsS_there (acc := []) e1 (fun x hx => ⟨hg.2 x hx, ho x hx⟩)]
  unfold dec2
  rw [if_neg (by simp), if_neg (by simp only [List.length_append]; omega)]
  rfl
/-- What is decoded was encoded so. -/
theorem enc_dec {bs : List Int} (hB : Bytes bs) (h : (decS bs).2.2 = 0) : encB (decS bs).1 = (bs, 0) := by
  unfold decS dec1 at h ⊢
  by_cases h1 : (rUpto bs 64 0 0).2.2 ≠ 0
  · rw [if_pos h1] at h; exact absurd h h1
  rw [if_neg h1] at h ⊢
  obtain ⟨a1, _, a3⟩ := rUpto_back hB (by simpa using h1 : (rUpto bs 64 0 0).2.2 = 0)
  have l1 := rUpto_le hB (most := 64) (e := 0) (p := 0) (by omega)
  generalize rUpto bs 64 0 0 = u at *
  generalize hT : txsS bs u.1 u.2.1 [] = T at *
  obtain ⟨L, p', e⟩ := T
  unfold dec2 at h ⊢
  simp only at h ⊢
  by_cases h2 : e ≠ 0
  · rw [if_pos h2] at h; exact absurd h h2
  obtain rfl : e = 0 := by simpa using h2
  rw [if_neg (by simp)] at h ⊢
  by_cases h3 : p' < bs.length
  · rw [if_pos h3] at h; simp at h
  rw [if_neg h3]
  obtain ⟨l, g1, g2, g3, g4, g5⟩ := txsS_back hB hT l1.1
  rw [List.nil_append] at g1
  subst g1
  simp only
  rw [encB_good ⟨by omega, g3⟩, g2]
  rw [List.drop_of_length_le (show bs.length ≤ p' by omega), List.append_nil] at g4
  rw [← g4, ← a3]
  rfl
end Go.Proofs.YtjchneebdlncfaaDoor.Lib
namespace Go.Proofs.YtjchneebdlncfaaDoor.Lib
open Go Den
set_option maxRecDepth 8000
theorem shR8 {x : Int} (k : Nat) (hk : k ≤ 32) (h : 0 ≤ x) : shR .u32 x (k : Int) = x / 2 ^ k := by
  unfold shR
  show Int.fdiv x (2 ^ (min (Int.toNat (k : Int)) 32)) = _
  rw [Int.toNat_natCast, Nat.min_eq_left hk, Int.fdiv_eq_ediv_of_nonneg _ (by exact Int.pow_nonneg (by omega))]
theorem fourS_eq {x : Int} (h : 0 ≤ x) : fourS x = [x % 256, x / 256 % 256, x / 65536 % 256, x / 16777216 % 256] := by
  unfold fourS
  have e8 : shR .u32 x 8 = x / 256 := shR8 8 (by omega) h
  have e16 : shR .u32 x 16 = x / 65536 := shR8 16 (by omega) h
  have e24 : shR .u32 x 24 = x / 16777216 := shR8 24 (by omega) h
  rw [e8, e16, e24]
  simp only [wrap_u8_eq]
theorem fourS_len (x : Int) : (fourS x).length = 4 := rfl
theorem word_four {x : Int} (h : 0 ≤ x) (h1 : x < 4294967296) (r : List Int) : word (fourS x ++ r) 0 = x := by
  rw [fourS_eq h]
  unfold word
  simp only [List.cons_append, List.nil_append, List.getD_cons_zero, List.getD_cons_succ]
  omega
theorem word_at {x : Int} (h : 0 ≤ x) (h1 : x < 4294967296) (a r : List Int) : word (a ++ (fourS x ++ r)) a.length = x := by
  have := word_drop (a ++ (fourS x ++ r)) a.length 0
  rw [List.drop_left, word_four h h1] at this
  simpa using this.symm
theorem four_word0 {l : List Int} (hB : Bytes l) (h : 4 ≤ l.length) : fourS (word l 0) = l.take 4 := by
  obtain ⟨a, l, rfl⟩ := List.exists_cons_of_length_pos (show 0 < l.length by omega)
  simp only [List.length_cons] at h
  obtain ⟨b, l, rfl⟩ := List.exists_cons_of_length_pos (show 0 < l.length by omega)
  simp only [List.length_cons] at h
  obtain ⟨c, l, rfl⟩ := List.exists_cons_of_length_pos (show 0 < l.length by omega)
  simp only [List.length_cons] at h
  obtain ⟨d, l, rfl⟩ := List.exists_cons_of_length_pos (show 0 < l.length by omega)
  have ha := hB a (by simp); have hb := hB b (by simp); have hc := hB c (by simp); have hd := hB d (by simp)
  have e : word (a :: b :: c :: d :: l) 0 = a + b * 256 + c * 65536 + d * 16777216 := rfl
  rw [e, fourS_eq (by omega)]
  simp only [List.take_succ_cons, List.take_zero, List.cons.injEq, and_true]
  refine ⟨by omega, by omega, by omega, by omega⟩
theorem four_word {l : List Int} (hB : Bytes l) {o : Nat} (h : o + 4 ≤ l.length) : fourS (word l o) = (l.drop o).take 4 := by
  have := four_word0 (hB.drop o) (by rw [List.length_drop]; omega)
  rw [word_drop] at this
  exact this
theorem headS_len (k : Int) (n : Nat) : (headS k n).length = 5 := rfl
theorem sealS_some {k : Int} {l : List Int} (h : l.length ≤ 16777216) : sealS k l = headS k l.length ++ (fourS (crc (headS k l.length)) ++ (l ++ fourS (crc l))) := by
  unfold sealS
  rw [if_neg (by omega)]
  simp only [List.append_assoc]
theorem sealS_length {k : Int} {l : List Int} (h : l.length ≤ 16777216) : (sealS k l).length = 13 + l.length := by
  rw [sealS_some h]
  simp only [List.length_append, headS_len, fourS_len]
  omega
/-- What is sealed is unsealed. -/
theorem unsl_seal {k : Int} {l : List Int} (h : l.length ≤ 16777216) : unsl (sealS k l) 0 = (k, l, (sealS k l).length, 0) := by
  have hlen := sealS_length (k := k) h
  unfold unsl unslR
  rw [List.drop_zero]
  have c1 := crc_range (headS k l.length)
  have c2 := crc_range l
  have hs := sealS_some (k := k) h
  have w1 : word (sealS k l) 1 = l.length := by
    rw [hs]
    have := word_at (x := (l.length : Int)) (by omega) (by omega) [k] (fourS (crc (headS k l.length)) ++ (l ++ fourS (crc l)))
    generalize fourS (crc (headS k l.length)) = z at *
    unfold headS
    simpa only [List.append_assoc, List.length_singleton] using this
  have w5 : word (sealS k l) 5 = crc (headS k l.length) := by
    rw [hs]
    exact word_at c1.1 c1.2 (headS k l.length) (l ++ fourS (crc l))
  have t5 : (sealS k l).take 5 = headS k l.length := by
    rw [hs]
    exact List.take_left' (headS_len _ _)
  have d9 : ((sealS k l).drop 9).take l.length = l := by
    rw [hs, ← List.append_assoc, List.drop_left' (by simp only [List.length_append, headS_len, fourS_len])]
    exact List.take_left' rfl
  have w9 : word (sealS k l) (9 + l.length) = crc l := by
    have := word_at c2.1 c2.2 (headS k l.length ++ (fourS (crc (headS k l.length)) ++ l)) []
    rw [hs]
    have e : (headS k l.length ++ (fourS (crc (headS k l.length)) ++ l)).length = 9 + l.length := by simp only [List.length_append, headS_len, fourS_len]; omega
    rw [e] at this
    simpa only [List.append_assoc, List.append_nil] using this
  have g0 : (sealS k l).getD 0 0 = k := by rw [hs]; rfl
  rw [w1, w5, t5, Int.toNat_natCast, d9, w9, if_neg (by omega), if_neg (by simp), if_neg (by omega), if_neg (by omega), if_neg (by simp), g0, hlen]
/-- What is unsealed was sealed. -/
theorem seal_unsl {bs ld : List Int} (hB : Bytes bs) {k : Int} (h : unsl bs 0 = (k, ld, bs.length, 0)) : bs = sealS k ld ∧ ld.length ≤ 16777216 := by
  unfold unsl unslR at h
  rw [List.drop_zero] at h
  split at h
  · simp at h
  rename_i h9
  split at h
  · simp at h
  rename_i hc
  split at h
  · simp at h
  rename_i hbig
  split at h
  · simp at h
  rename_i h13
  split at h
  · simp at h
  rename_i hc2
  simp only [Prod.mk.injEq] at h
  obtain ⟨rfl, hld, hn, _⟩ := h
  have hw := word_range hB 1
  generalize hN : (word bs 1).toNat = N at *
  have hldl : ld.length = N := by rw [← hld, List.length_take, List.length_drop]; omega
  have hsm : ld.length ≤ 16777216 := by omega
  refine ⟨?_, hsm⟩
  rw [sealS_some hsm, hldl]
  have e0 : headS (bs.getD 0 0) N = bs.take 5 := by
    unfold headS
    rw [show ((N : Nat) : Int) = word bs 1 by omega, four_word hB (by omega)]
    obtain ⟨a, r, rfl⟩ := List.exists_cons_of_length_pos (show 0 < bs.length by omega)
    rfl
  rw [e0]
  have hc' : crc (bs.take 5) = word bs 5 := Classical.byContradiction hc
  have hc2' : crc ((bs.drop 9).take N) = word bs (9 + N) := Classical.byContradiction hc2
  rw [hc', four_word hB (by omega), ← hld, hc2', four_word hB (by omega)]
  have s1 : bs.drop 5 = (bs.drop 5).take 4 ++ bs.drop 9 := by
    conv => lhs; rw [← List.take_append_drop 4 (bs.drop 5)]
    rw [List.drop_drop]
  have s2 : bs.drop 9 = (bs.drop 9).take N ++ bs.drop (9 + N) := by
    conv => lhs; rw [← List.take_append_drop N (bs.drop 9)]
    rw [List.drop_drop]
  have s3 : (bs.drop (9 + N)).take 4 = bs.drop (9 + N) := List.take_of_length_le (by rw [List.length_drop]; omega)
  rw [s3, ← s2, ← s1, List.take_append_drop]
end Go.Proofs.YtjchneebdlncfaaDoor.Lib
namespace Go.Proofs.YtjchneebdlncfaaDoor.Lib
open Go Den
set_option maxRecDepth 8000
theorem cs_zero {s : BitVec 32} (h : cs s = 0#32) : s = 0#32 := by
  unfold cs at h
  cases hb : s.getLsbD 0 with
  | true =>
    rw [hb, cond_true] at h
    have := congrArg (fun t : BitVec 32 => t.getLsbD 31) h
    simp [BitVec.getLsbD_xor, BitVec.getLsbD_ushiftRight, P32] at this
  | false =>
    rw [hb, cond_false, BitVec.xor_zero] at h
    apply BitVec.eq_of_getLsbD_eq
    intro i hi
    cases i with
    | zero => rw [hb]; simp
    | succ i =>
      have := congrArg (fun t : BitVec 32 => t.getLsbD i) h
      simp only [BitVec.getLsbD_ushiftRight, BitVec.getLsbD_zero] at this
      rw [Nat.add_comm] at this
      rw [this]
      simp
theorem xor_zero_eq {a b : BitVec 32} (h : a ^^^ b = 0#32) : a = b := by
  have : (a ^^^ b) ^^^ b = 0#32 ^^^ b := by rw [h]
  rwa [BitVec.xor_assoc, BitVec.xor_self, BitVec.xor_zero, BitVec.zero_xor] at this
theorem cs_inj {a b : BitVec 32} (h : cs a = cs b) : a = b := xor_zero_eq (cs_zero (by rw [cs_xor, h, BitVec.xor_self]))
theorem cs4_inj {a b : BitVec 32} (h : cs4 a = cs4 b) : a = b := cs_inj (cs_inj (cs_inj (cs_inj h)))
theorem xor_inj {a b c : BitVec 32} (h : a ^^^ c = b ^^^ c) : a = b := by
  have : (a ^^^ c) ^^^ c = (b ^^^ c) ^^^ c := by rw [h]
  simpa only [BitVec.xor_assoc, BitVec.xor_self, BitVec.xor_zero] using this
theorem cb_inj {a b : BitVec 32} {c : Int} (h : cb a c = cb b c) : a = b := by
  unfold cb at h
  exact xor_inj (cs4_inj (cs4_inj h))
theorem cb_byte {a : BitVec 32} {c d : Int} (hc : 0 ≤ c ∧ c < 256) (hd : 0 ≤ d ∧ d < 256) (h : cb a c = cb a d) : c = d := by
  unfold cb at h
  have h2 := cs4_inj (cs4_inj h)
  rw [BitVec.xor_comm a, BitVec.xor_comm a] at h2
  have h3 := congrArg BitVec.toNat (xor_inj h2)
  simp only [BitVec.toNat_ofInt, BitVec.toNat_ofNat] at h3
  omega
theorem fold_inj : ∀ {r : List Int} {a b : BitVec 32}, r.foldl cb a = r.foldl cb b → a = b
  | [], _, _, h => h
  | _ :: _, _, _, h => cb_inj (fold_inj h)
theorem byte_getD {l : List Int} (hB : Bytes l) (i : Nat) : 0 ≤ l.getD i 0 ∧ l.getD i 0 < 256 := byte_of hB i
theorem crc_set {l : List Int} (hB : Bytes l) {i : Nat} (hi : i < l.length) {v : Int} (hv : 0 ≤ v ∧ v < 256) (hne : v ≠ l.getD i 0) : crc (l.set i v) ≠ crc l := by
  intro h
  unfold crc at h
  have h1 : (crcF (l.set i v) ^^^ 4294967295#32) = (crcF l ^^^ 4294967295#32) := BitVec.eq_of_toNat_eq (by omega)
  have h2 := xor_inj h1
  have hl : l = l.take i ++ l.getD i 0 :: l.drop (i + 1) := by
    rw [List.getD_eq_getElem?_getD, List.getElem?_eq_getElem hi, Option.getD_some, List.getElem_cons_drop hi, List.take_append_drop]
  have hs : l.set i v = l.take i ++ v :: l.drop (i + 1) := List.set_eq_take_append_cons_drop.trans (if_pos hi)
  have hg := byte_getD hB i
  rw [hs] at h2
  generalize l.getD i 0 = g at *
  rw [show crcF l = crcF (l.take i ++ g :: l.drop (i + 1)) by rw [← hl]] at h2
  unfold crcF at h2
  rw [List.foldl_append, List.foldl_append, List.foldl_cons, List.foldl_cons] at h2
  exact hne (cb_byte hv hg (fold_inj h2))
theorem getD_set_ne' {l : List Int} {i j : Nat} (h : i ≠ j) (v : Int) : (l.set i v).getD j 0 = l.getD j 0 := by
  rw [List.getD_eq_getElem?_getD, List.getD_eq_getElem?_getD, List.getElem?_set_ne h]
theorem word_set {l : List Int} {i o : Nat} (h : i < o ∨ o + 4 ≤ i) (v : Int) : word (l.set i v) o = word l o := by
  unfold word
  rw [getD_set_ne' (by omega), getD_set_ne' (by omega), getD_set_ne' (by omega), getD_set_ne' (by omega)]
theorem unsl_facts {bs : List Int} (h : (unsl bs 0).2.2.2 = 0) : 13 + (word bs 1).toNat ≤ bs.length ∧ crc (bs.take 5) = word bs 5 ∧ crc ((bs.drop 9).take (word bs 1).toNat) = word bs (9 + (word bs 1).toNat) := by
  unfold unsl unslR at h
  rw [List.drop_zero] at h
  split at h
  · simp at h
  split at h
  · simp at h
  rename_i hc
  split at h
  · simp at h
  split at h
  · simp at h
  rename_i h13
  split at h
  · simp at h
  rename_i hc2
  exact ⟨by omega, Classical.byContradiction hc, Classical.byContradiction hc2⟩
theorem Bytes.set {l : List Int} (hB : Bytes l) (i : Nat) {v : Int} (hv : 0 ≤ v ∧ v < 256) : Bytes (l.set i v) := fun x hx => by
  rcases List.mem_or_eq_of_mem_set hx with h | rfl
  · exact hB x h
  · exact hv
/-- A record of which a byte of the head's sum or of the load is changed is none. -/
theorem unsl_changed {bs : List Int} (hB : Bytes bs) (h : (unsl bs 0).2.2.2 = 0) {i : Nat} (h5 : 5 ≤ i) (hi : i < 9 + (word bs 1).toNat) {v : Int} (hv : 0 ≤ v ∧ v < 256) (hne : v ≠ bs.getD i 0) : (unsl (bs.set i v) 0).2.2.2 ≠ 0 := by
  intro h'
  obtain ⟨f0, f1, f2⟩ := unsl_facts h
  obtain ⟨_, g1, g2⟩ := unsl_facts h'
  have w1 : word (bs.set i v) 1 = word bs 1 := word_set (by omega) v
  rw [w1] at g2
  have t5 : (bs.set i v).take 5 = bs.take 5 := by rw [List.take_set_of_le h5]
  rw [t5, f1] at g1
  generalize hN : (word bs 1).toNat = N at *
  by_cases h9 : i < 9
  · have e1 := four_word hB (o := 5) (by omega)
    have e2 := four_word (hB.set i hv) (o := 5) (by rw [List.length_set]; omega)
    rw [← g1, e1] at e2
    have := congrArg (fun l : List Int => l[i - 5]?) e2
    rw [List.getElem?_take_of_lt (by omega), List.getElem?_take_of_lt (by omega), List.getElem?_drop, List.getElem?_drop, show 5 + (i - 5) = i by omega, List.getElem?_set_self (by omega), List.getElem?_eq_getElem (show i < bs.length by omega)] at this
    rw [List.getD_eq_getElem?_getD, List.getElem?_eq_getElem (show i < bs.length by omega), Option.getD_some] at hne
    exact hne (Option.some.inj this).symm
  · have w9 : word (bs.set i v) (9 + N) = word bs (9 + N) := word_set (by omega) v
    have hd : ((bs.set i v).drop 9).take N = ((bs.drop 9).take N).set (i - 9) v := by
      rw [List.drop_set, if_neg (by omega), List.take_set]
    rw [w9, ← f2, hd] at g2
    refine crc_set ((hB.drop 9).take N) (i := i - 9) ?_ hv ?_ g2
    · rw [List.length_take, List.length_drop]; omega
    · rw [List.getD_eq_getElem?_getD, List.getElem?_take_of_lt (by omega), List.getElem?_drop, show 9 + (i - 9) = i by omega, ← List.getD_eq_getElem?_getD]
      exact hne
end Go.Proofs.YtjchneebdlncfaaDoor.Lib
