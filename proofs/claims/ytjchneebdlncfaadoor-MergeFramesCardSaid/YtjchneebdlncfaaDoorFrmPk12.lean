/-
  Decode OF A BATCH: contracts of the reader's parts, which give up by a panic, of the closure that recovers, and of Decode.
  Decode OF A BATCH: a transaction's reading, and the whole.
  A BATCH THAT GROWS.
  Decode OF A BATCH: the closure that recovers, and Decode's contract.
  RECORDS, READ: what Unseal answers, as a function on bytes; its contract and the reference's.
  FRAMES, READ: what DecodePiece and DecodeWants answer, as functions on bytes; contracts of merge's.
  Own work. No macro, syntax, notation, axiom.
-/
import Derived.Test.YtjchneebdlncfaaDoorFrmPk11
import Derived.Test.YtjchneebdlncfaaDoorFrmPk8
import Derived.Test.YtjchneebdlncfaaDoorFrmPk6
import Derived.Test.YtjchneebdlncfaaDoorFrmPk4
import Derived.Test.YtjchneebdlncfaaDoorFrmPk7
namespace Go.Proofs.YtjchneebdlncfaaDoor.Lib
open Go Den Fn
open Go.RowKit (Below)
open Classical
set_option maxRecDepth 8000
set_option maxHeartbeats 2000000
theorem atR_c (w : World) (b n c p : Nat) (a : Option Addr) (bs : List Int) (e : Int) (h : Rd w b a n c bs p e) : Calls Tryd.prog 81 #[.pointer (some ⟨b, 0, none⟩)] w fun en w' => en = .returned (.int .i64 p) ∧ w' = w := by
  refine c81 _ ?_
  unfold d81
  exact h.at ⟨rfl, rfl⟩
theorem errR_c (w : World) (b n c p : Nat) (a : Option Addr) (bs : List Int) (e : Int) (h : Rd w b a n c bs p e) : Calls Tryd.prog 77 #[.pointer (some ⟨b, 0, none⟩)] w fun en w' => en = .returned (.int .i64 e) ∧ w' = w := by
  refine c77 _ ?_
  unfold d77
  exact h.err ⟨rfl, rfl⟩
theorem leftR_c (w : World) (b n c p : Nat) (a : Option Addr) (bs : List Int) (e : Int) (h : Rd w b a n c bs p e) : Calls Tryd.prog 45 #[.pointer (some ⟨b, 0, none⟩)] w fun en w' => en = .returned (.int .i64 ((n : Int) - p)) ∧ Tch [] w w' := by
  refine c45 _ ?_
  unfold d45
  rintro w1 rfl
  have td := (Tch.refl [] w).drew
  have hd := h.quiet td
  refine hd.slice ?_
  refine hd.at ?_
  have := h.le
  have := h.N
  rw [wrap_i64 (by omega) (by omega)]
  exact ⟨rfl, td⟩
theorem zcBroken : zc Tryd.prog 141 = [.int .i64 0, .int .i64 0] := by kernel_rfl
theorem zcKey' : zc Tryd.prog 129 = kC (0, 0) := by kernel_rfl
/-- What a reading gives up with. -/
abbrev brk (p : Nat) (e : Int) : List PanicEntry := [⟨.iface 141 (.agg #[.int .i64 (p : Int), .int .i64 e]), false, false⟩]
abbrev rdA (b : Nat) : Value := .agg #[.pointer (some ⟨b, 0, none⟩)]
theorem held_c (w : World) (b n c p : Nat) (a : Option Addr) (bs : List Int) (e : Int) (at' : Nat) (h : Rd w b a n c bs p e) :
    Calls Tryd.prog 95 #[rdA b, .int .i64 at'] w fun en w' => en = (if e ≠ 0 then .panicked (brk at' e) else .returned (.tuple #[])) ∧ Tch [] w w' := by
  refine c95 _ _ ?_
  unfold d95
  rintro w2 rfl
  have hB : Blk _ _ [Value.pointer (some ⟨b, 0, none⟩)] := Blk.fresh w (cs := [Value.pointer (some ⟨b, 0, none⟩)]) 144 rfl
  have t := (Tch.refl [] w).alloc (.cells #[Value.pointer (some ⟨b, 0, none⟩)] 144)
  refine ⟨_, by rw [add_mk]; exact hB.cell 0, ?_⟩
  refine (errR_c _ b n c p a bs e (h.quiet t)).mono ?_
  rintro en w5 ⟨rfl, hw⟩
  rw [hw]
  refine ⟨_, rfl, ?_⟩
  by_cases he : e = 0
  · rw [bif_npos he, if_neg (by simpa using he)]
    exact ⟨rfl, t⟩
  · rw [bif_nneg he, if_pos he]
    exact ⟨[.int .i64 at', .int .i64 e], by rw [zcBroken]; rfl, ⟨_, _, rfl⟩, rfl, t⟩
/-- What a number's reading comes to: it, or a giving up. -/
def UpO (w : World) (b n c p : Nat) (a : Option Addr) (bs : List Int) (most : Nat) (en : Ending) (w' : World) : Prop := (if (rUpto bs most p 0).2.2 ≠ 0 then en = .panicked (brk p (rUpto bs most p 0).2.2) else en = .returned (.int .i64 (rUpto bs most p 0).1)) ∧ RdR w w' b a n c bs (rUpto bs most p 0).2
theorem bupto_c (w : World) (b n c p : Nat) (a : Option Addr) (bs : List Int) (most : Nat) (hm : most < 9223372036854775808) (h : Rd w b a n c bs p 0) :
    Calls Tryd.prog 79 #[rdA b, .int .i64 most] w (UpO w b n c p a bs most) := by
  refine c79 _ _ ?_
  unfold d79
  rintro w2 rfl
  have hB : Blk _ _ [Value.pointer (some ⟨b, 0, none⟩)] := Blk.fresh w (cs := [Value.pointer (some ⟨b, 0, none⟩)]) 144 rfl
  have t := (Tch.refl [] w).alloc (.cells #[Value.pointer (some ⟨b, 0, none⟩)] 144)
  have hbl := h.blk.lt
  generalize hw2 : w.alloc (.cells #[Value.pointer (some ⟨b, 0, none⟩)] 144) = w2 at *
  generalize hrb : w.heap.size = rb at *
  refine ⟨_, by rw [add_mk]; exact hB.cell 0, ?_⟩
  refine (atR_c _ b n c p a bs 0 (h.quiet t)).mono ?_
  rintro en w5 ⟨rfl, rfl⟩
  refine ⟨_, rfl, _, by rw [add_mk]; exact hB.cell 0, ?_⟩
  rw [wrap_u64 (by omega) (by omega)]
  refine (upto_c w5 b n c p a bs 0 most (h.quiet t)).mono ?_
  rintro en w9 ⟨rfl, hR⟩
  have hB9 := hB.tch hR.2 (by simp; omega)
  refine ⟨_, rfl, get_all hB9 rfl ?_⟩
  refine (held_c w9 b n c _ a bs _ p hR.1).mono ?_
  rintro en w13 ⟨rfl, t13⟩
  have fin := (RdR.pre t hR).post t13
  have hu := (rUpto_le (most := most) (e := 0) h.B (by rw [h.len]; exact h.le)).2.2
  by_cases he : (rUpto bs most p 0).2.2 = 0
  · rw [if_neg (by simpa using he)]
    refine ⟨rfl, ?_, fin⟩
    rw [if_neg (by simpa using he), wrap_i64 (by omega) (by omega)]
  · rw [if_pos he]
    refine ⟨?_, fin⟩
    rw [if_pos he]
/-- What a list's reading comes to. -/
def SetO (w : World) (b n c : Nat) (a : Option Addr) (bs : List Int) (K : List (Int × Int) × Nat × Int) (en : Ending) (w' : World) : Prop :=
  if K.2.2 ≠ 0 then en = .panicked (brk K.2.1 K.2.2) ∧ Tch [b] w w'
  else RdR w w' b a n c bs K.2 ∧ ∃ la lc, en = .returned (.slice la K.1.length lc) ∧ w'.ownsRow w.heap.size 129 2 (.slice la K.1.length lc) K.1.length (rows kC K.1)
theorem SetO.bad {w : World} {b n c p : Nat} {a : Option Addr} {bs : List Int} {e : Int} {en : Ending} {w' : World} (he : e ≠ 0) (h : en = .panicked (brk p e)) (ht : Tch [b] w w') : SetO w b n c a bs ([], p, e) en w' := by
  unfold SetO
  rw [if_pos he]
  exact ⟨h, ht⟩
theorem kI_kOf {bs : List Int} (hB : Bytes bs) (p : Nat) : kI (kOf bs p) := by
  have hk := kOf_ok hB p
  have := hk.1
  unfold KeyOk at this
  exact ⟨by unfold I64; omega, hk.2⟩
theorem set_c (w : World) (b n c p : Nat) (a : Option Addr) (bs : List Int) (h : Rd w b a n c bs p 0) :
    Calls Tryd.prog 97 #[rdA b, .int .i64 16] w (SetO w b n c a bs (keysS bs p)) := by
  refine c97 _ _ ?_
  unfold d97
  rintro w2 rfl
  have hB : Blk _ _ [Value.pointer (some ⟨b, 0, none⟩)] := Blk.fresh w (cs := [Value.pointer (some ⟨b, 0, none⟩)]) 144 rfl
  have t := (Tch.refl [] w).alloc (.cells #[Value.pointer (some ⟨b, 0, none⟩)] 144)
  have hbl := h.blk.lt
  generalize hw2 : w.alloc (.cells #[Value.pointer (some ⟨b, 0, none⟩)] 144) = w2 at *
  generalize hrb : w.heap.size = rb at *
  have hlen := h.len
  refine get_all hB rfl ?_
  refine (bupto_c w2 b n c p a bs 16 (by omega) (h.quiet t)).mono ?_
  rintro en w5 ⟨hen, hR⟩
  have hle := rUpto_le (most := 16) (e := 0) h.B (by rw [h.len]; exact h.le)
  unfold keysS
  by_cases he : (rUpto bs 16 p 0).2.2 ≠ 0
  · rw [if_pos he] at hen ⊢
    rw [hen]
    exact SetO.bad he rfl (RdR.pre t hR).2
  rw [if_neg he] at hen ⊢
  rw [hen]
  have he0 : (rUpto bs 16 p 0).2.2 = 0 := by simpa using he
  have hst : (rUpto bs 16 p 0).2 = ((rUpto bs 16 p 0).2.1, 0) := Prod.ext rfl he0
  rw [hst] at hR
  generalize (rUpto bs 16 p 0).1 = cnt at *
  generalize (rUpto bs 16 p 0).2.1 = p1 at *
  replace hB := hB.tch hR.2 (by simp; omega)
  replace hR := RdR.pre t hR
  have hs5 := hR.2.size
  clear t hw2
  refine ⟨_, rfl, fun m l ln lc x u => ∃ (q p' : Nat) (acc : List (Int × Int)), x = q ∧ q ≤ cnt ∧ m = cnt - q ∧ ln = acc.length ∧ acc.length = q ∧ (∀ k ∈ acc, kI k) ∧ RdR w u b a n c bs (p', 0) ∧ Blk u rb [Value.pointer (some ⟨b, 0, none⟩)] ∧ u.ownsRow (rb + 1) 129 2 (.slice l ln lc) ln (rows kC acc) ∧ rb + 1 ≤ u.heap.size ∧ kS bs cnt p1 [] = kS bs (cnt - q) p' acc,
    ⟨cnt, 0, p1, [], rfl, by omega, rfl, rfl, rfl, by simp, hR, hB, own_nil _ _ _ _, by have := hB.lt; omega, rfl⟩, ?_⟩
  clear hR hB
  rintro m w9 l ln lc x ⟨q, p', acc, rfl, hq, rfl, rfl, hal, hki, hR, hB, hown, hsz, hk⟩
  rw [hk]
  have hs9 := hR.2.size
  by_cases hlt : q < cnt
  rotate_left
  · rw [bif_neg (by omega)]
    have : cnt - q = 0 := by omega
    rw [this]
    unfold kS SetO
    rw [if_neg (by simp)]
    exact ⟨hR, l, lc, rfl, own_base hown (by omega)⟩
  rw [bif_pos (by omega)]
  obtain ⟨r, hr⟩ : ∃ r, cnt - q = r + 1 := ⟨cnt - q - 1, by omega⟩
  rw [hr] at hk ⊢
  have hp9 := hR.1.le
  refine ⟨_, by rw [add_mk]; exact hB.cell 0, ?_⟩
  refine (atR_c w9 b n c p' a bs 0 hR.1).mono ?_
  rintro en w14 ⟨rfl, hw⟩
  rw [hw]
  clear hw
  refine ⟨_, rfl, _, by rw [add_mk]; exact hB.cell 0, ?_⟩
  refine (rawR_c w9 b n c p' a bs 0 10 hR.1).mono ?_
  rintro en w18 ⟨xa, xc, rfl, hR18, hx⟩
  have hbo : b ∉ rowL l := fun hm => by
    rw [mem_rowL] at hm
    obtain ⟨z, hz, hb⟩ := hm
    have := (own_ge hown z hz).1
    omega
  have hown18 : w18.ownsRow (rb + 1) 129 2 (.slice l acc.length lc) acc.length (rows kC acc) := own_up hown hR18.2 (fun z hz hm => by
    simp only [List.mem_singleton] at hm
    have := (own_lt hown hz).1
    omega)
  have hB18 := hB.tch hR18.2 (by simp; omega)
  refine ⟨_, _, _, rfl, get_all hB18 rfl ?_⟩
  have hRw := hR.trans hR18
  refine (held_c w18 b n c _ a bs _ p' hR18.1).mono ?_
  rintro en w22 ⟨rfl, t22⟩
  replace hRw := hRw.post t22
  by_cases he : (rRaw bs 10 p' 0).2.2 ≠ 0
  · rw [if_pos he]
    have : kS bs (r + 1) p' acc = ([], p', (rRaw bs 10 p' 0).2.2) := by unfold kS; rw [if_pos he]
    rw [this]
    exact SetO.bad he rfl hRw.2
  rw [if_neg he]
  refine ⟨rfl, ?_⟩
  have hraw : p' + 10 ≤ bs.length ∧ rRaw bs 10 p' 0 = ((bs.drop p').take 10, p' + 10, 0) := by
    rcases raw10 bs p' with g | g
    · exact g
    · exact absurd g.2.2.2 he
  rw [hraw.2] at hx hRw
  rw [show (rRaw bs 10 p' 0).1 = (bs.drop p').take 10 by rw [hraw.2]]
  have hx22 := own_rsl (own_up hx t22 (fun _ _ h => by cases h)) ones_ints
  refine (fromBytes_c w22 ((bs.drop p').take 10) xa _ xc hx22 ((h.B.drop p').take 10)).mono ?_
  rintro en w24 ⟨rfl, t24⟩
  refine ⟨_, _, rfl, _, rfl, _, rfl, ?_⟩
  replace hRw := hRw.post t24
  have t2224 := t22.trans t24 (by simp)
  have hown24 := own_up hown18 t2224 (fun _ _ h => by cases h)
  have hB24 := hB18.tch t2224 (by simp)
  show ∀ w29 : World, w29 = World.alloc w24 _ → Array.size (List.toArray (kC (kOf bs p'))) = 2 ∧ _
  refine var_init (n := 2) (by rw [zcKey']; rfl) rfl kC_one fun w29 w30 kk t30 s30 => ?_
  have hkI := kI_kOf h.B p'
  replace hRw := hRw.post t30
  have hown30 := own_up hown24 t30 (fun _ _ h => by cases h)
  have hB30 := hB24.tch t30 (by simp)
  generalize w24.heap.size = kb at *
  have hkS : kS bs (r + 1) p' acc = if clash acc (kOf bs p') then ([], p', 65) else kS bs r (p' + 10) (acc ++ [kOf bs p']) := by
    conv => lhs; unfold kS
    rw [if_neg he]
  refine ⟨fun u => Tch [] w30 u ∧ ¬ clash acc (kOf bs p'), ?_, ?_⟩
  · rintro w32 rfl
    have td := (Tch.refl [] w30).drew
    by_cases h0 : 0 < acc.length
    rotate_left
    · rw [bif_neg (by omega)]
      refine ⟨td, ?_⟩
      rintro ⟨l, hl, _⟩
      have : acc = [] := List.length_eq_zero_iff.1 (by omega)
      rw [this] at hl
      cases hl
    rw [bif_pos (by omega), wrap_i64 (by omega) (by omega)]
    refine ⟨by omega, by omega, ?_⟩
    have hlast : acc[acc.length - 1]? = some (acc[acc.length - 1]'(by omega)) := List.getElem?_eq_getElem (by omega)
    have hgl : acc.getLast? = some (acc[acc.length - 1]'(by omega)) := by rw [List.getLast?_eq_getElem?]; exact hlast
    generalize acc[acc.length - 1]'(by omega) = y at hlast hgl
    rw [show ((acc.length : Int) - 1).toNat = acc.length - 1 by omega]
    refine (own_rsl (own_up hown30 td (fun _ _ h => by cases h)) kCs_one).elem kC_len (by omega) hlast ?_
    refine get_all (kk.tch td (by simp)) rfl ?_
    refine (compare_c y (kOf bs p') _ (hki y (List.mem_of_getElem? hlast)) hkI).mono ?_
    rintro en w37 ⟨rfl, t37⟩
    refine ⟨_, rfl, ?_⟩
    have q37 := td.trans t37 (by simp)
    by_cases hc : 0 ≤ cmpK y (kOf bs p')
    · rw [bif_pos hc]
      refine ⟨[.int .i64 p', .int .i64 65], by rw [zcBroken]; rfl, ⟨_, _, rfl⟩, ?_⟩
      rw [hkS, if_pos ⟨y, hgl, hc⟩]
      exact SetO.bad (by simp) rfl (hRw.post q37).2
    · rw [bif_neg hc]
      refine ⟨q37, ?_⟩
      rintro ⟨z, hz, hzc⟩
      rw [hgl] at hz
      cases hz
      exact hc hzc
  rintro w40 ⟨t40, hnc⟩
  rw [hkS, if_neg hnc] at hk
  refine get_all (kk.tch t40 (by simp)) rfl ?_
  have hown40 := own_up hown30 t40 (fun _ _ h => by cases h)
  replace hRw := hRw.post t40
  have hs40 := hRw.2.size
  have hs9' := (hR18.2.trans (((t2224.trans t30 (by simp)).trans t40 (by simp)).weaken (by simp)) (fun i hi => .inl hi)).size
  refine app_elem_at kT hown40 (by rw [zcKey']; rfl) (ys := kC (kOf bs p')) rfl rfl kC_one (by omega) (by omega) (by omega) fun a5 c5 w45 o5 t5 m5 => ?_
  have hge := own_ge hown40
  have q45 : Tch [b] w w45 := hRw.2.trans t5 fun k hk => .inr (by
    rw [mem_rowL] at hk
    obtain ⟨z, hz, rfl⟩ := hk
    have := (hge z hz).1
    omega)
  refine ⟨r, by omega, q + 1, p' + 10, acc ++ [kOf bs p'], by rw [wrap_i64 (by omega) (by omega)]; omega, by omega, by omega, by simp, by simp [hal], fun k hm => ?_, ⟨?_, q45⟩, ?_, ?_, by have := t5.size; omega, ?_⟩
  · rcases List.mem_append.1 hm with hm | hm
    · exact hki k hm
    · rw [List.mem_singleton.1 hm]; exact hkI
  · refine hRw.1.tch t5 ?_ ?_
    · intro hm
      rw [mem_rowL] at hm
      obtain ⟨z, hz, hb⟩ := hm
      have := (hge z hz).1
      omega
    · have hlow := h.row.low (by omega)
      rcases hlow with hl0 | hl0
      · exact .inl hl0
      · refine .inr fun z hz hm => ?_
        rw [mem_rowL] at hm
        obtain ⟨y, hy, hyb⟩ := hm
        have := (hge y hy).1
        have := hl0 z hz
        omega
  · exact (hB30.tch t40 (by simp)).tch t5 (fun hm => by
      rw [mem_rowL] at hm
      obtain ⟨z, hz, hb⟩ := hm
      have := (hge z hz).1
      omega)
  · rw [rows_append, show rows kC [kOf bs p'] = kC (kOf bs p') by simp [rows]]
    exact o5
  · rw [hkS, if_neg hnc, show cnt - (q + 1) = r by omega]
end Go.Proofs.YtjchneebdlncfaaDoor.Lib
namespace Go.Proofs.YtjchneebdlncfaaDoor.Lib
open Go Den Fn
open Go.RowKit (Below)
open Classical
set_option maxRecDepth 8000
set_option maxHeartbeats 4000000
theorem zcTx' : zc Tryd.prog 76 = [.int .i64 0, .slice none 0 0, .slice none 0 0, .slice none 0 0] := by kernel_rfl
theorem i64T : slT Tryd.prog 73 2 1 8 = true := by kernel_rfl
theorem zcI64' : zc Tryd.prog 2 = [.int .i64 0] := by kernel_rfl
/-- Writes into later blocks leave a reader alone. -/
theorem RdR.far {w0 w u u' : World} {b n c p0 : Nat} {e0 : Int} {a : Option Addr} {bs : List Int} {st : Nat × Int} {s : List Nat} (h0 : Rd w0 b a n c bs p0 e0) (hw : w0.heap.size ≤ w.heap.size) (h : RdR w u b a n c bs st) (ht : Tch s u u') (hs : ∀ k ∈ s, w.heap.size ≤ k) : RdR w u' b a n c bs st := by
  have hbl := h0.blk.lt
  refine ⟨h.1.tch ht (fun hm => by have := hs b hm; omega) ?_, h.2.trans ht fun k hk => .inr (hs k hk)⟩
  rcases h0.row.low (by omega) with hl0 | hl0
  · exact .inl hl0
  · refine .inr fun z hz hm => ?_
    have := hs _ hm
    have := hl0 z hz
    omega
theorem put_cell' {w : World} {b : Nat} {cs : List Value} (h : Blk w b cs) (o : Nat) (ho : o < cs.length) {v : Value} (h1 : one v = true) {K : World → Prop}
    (hK : ∀ w', Blk w' b (cs.set o v) → Tch [b] w w' → w'.heap.size = w.heap.size → K w') :
    one v = true ∧ Option.isSome (World.cell? w (Addr.add ⟨b, 0, none⟩ o)) = true ∧ World.frozen? w (Addr.add ⟨b, 0, none⟩ o) = false ∧ ∀ w' : World, w' = World.setCell w (Addr.add ⟨b, 0, none⟩ o) v → K w' := by
  rw [add_mk, Nat.zero_add]
  refine ⟨h1, by rw [h.cell, List.getElem?_eq_getElem ho]; rfl, h.frozen _, ?_⟩
  rintro w' rfl
  exact hK _ (h.set o v) ((Tch.refl [b] w).setCell (p := ⟨b, o, none⟩) (.inl (by simp)) v) (World.size_setCell _ _ _)
def TxO (w : World) (b n c : Nat) (a : Option Addr) (bs : List Int) (T : Tx × Nat × Int) (en : Ending) (w' : World) : Prop :=
  if T.2.2 ≠ 0 then en = .panicked (brk T.2.1 T.2.2) ∧ Tch [b] w w'
  else RdR w w' b a n c bs T.2 ∧ ∃ v : List Value, en = .returned (.agg v.toArray) ∧ TxV (fun k => w.heap.size ≤ k ∧ k < w'.heap.size) w' v T.1
theorem TxO.bad {w : World} {b n c : Nat} {a : Option Addr} {bs : List Int} {T : Tx × Nat × Int} {st : Nat × Int} {en : Ending} {w' : World} (hT : T = (.zero, st)) (he : st.2 ≠ 0) (h : en = .panicked (brk st.1 st.2)) (ht : Tch [b] w w') : TxO w b n c a bs T en w' := by
  unfold TxO
  rw [hT, if_pos he]
  exact ⟨h, ht⟩
theorem tx_c (w : World) (b n c p : Nat) (a : Option Addr) (bs : List Int) (h : Rd w b a n c bs p 0) :
    Calls Tryd.prog 80 #[rdA b] w (TxO w b n c a bs (txS bs p)) := by
  refine c80 _ ?_
  unfold d80
  rintro w1 rfl w2 rfl
  have hB : Blk _ _ [Value.pointer (some ⟨b, 0, none⟩)] := Blk.fresh w (cs := [Value.pointer (some ⟨b, 0, none⟩)]) 144 rfl
  have t1 := (Tch.refl [] w).alloc (.cells #[Value.pointer (some ⟨b, 0, none⟩)] 144)
  have s1 := size_alloc w (.cells #[Value.pointer (some ⟨b, 0, none⟩)] 144)
  have hbl := h.blk.lt
  generalize hw1 : w.alloc (.cells #[Value.pointer (some ⟨b, 0, none⟩)] 144) = w1 at *
  have hZ : Blk _ _ [.int .i64 0, .slice none 0 0, .slice none 0 0, .slice none 0 0] := Blk.fresh w1 (cs := zc Tryd.prog 76) 76 zcTx'
  have t2 := (Tch.refl [] w1).alloc (.cells (zc Tryd.prog 76).toArray 76)
  have s2 := size_alloc w1 (.cells (zc Tryd.prog 76).toArray 76)
  generalize w1.alloc (.cells (zc Tryd.prog 76).toArray 76) = w2 at *
  replace hB := hB.tch t2 (by simp)
  have t := t1.trans t2 (by simp)
  obtain ⟨rb, hrb⟩ : ∃ rb, w.heap.size = rb := ⟨_, rfl⟩
  obtain ⟨zb, hzb⟩ : ∃ zb, w1.heap.size = zb := ⟨_, rfl⟩
  rw [hrb] at hB hbl s1
  rw [hzb] at hZ s2 s1
  rw [hrb, hzb]
  clear hw1 t1 t2
  refine get_all hB rfl ?_
  refine (bupto_c w2 b n c p a bs 63 (by omega) (h.quiet t)).mono ?_
  rintro en w5 ⟨hen, hR⟩
  have hle := rUpto_le (most := 63) (e := 0) h.B (by rw [h.len]; exact h.le)
  unfold txS tx1
  generalize hu : rUpto bs 63 p 0 = u1 at *
  by_cases he : u1.2.2 ≠ 0
  · rw [if_pos he] at hen ⊢
    rw [hen]
    refine TxO.bad (st := u1.2) rfl he ?_ (RdR.pre t hR).2
    have : u1.2.1 = p := by rw [← hu] at he ⊢; exact (rUpto_err he).2
    rw [this]
  rw [if_neg he] at hen ⊢
  rw [hen]
  have he0 : u1.2.2 = 0 := by simpa using he
  rw [show u1.2 = (u1.2.1, 0) from Prod.ext rfl he0] at hR
  have hB5 := hB.tch hR.2 (by simp; omega)
  have hZ5 := hZ.tch hR.2 (by simp; omega)
  replace hR := RdR.pre t hR
  have hsz5 := hZ5.lt
  clear t hB hZ hen he he0
  refine ⟨_, rfl, [.int .i64 (u1.1 : Int), .slice none 0 0, .slice none 0 0, .slice none 0 0], by rw [zcTx']; rfl, ?_⟩
  refine var_init (n := 4) (by rw [zcTx']; rfl) rfl (by simp [one]) fun w8 w9 hX t9 s9 => ?_
  obtain ⟨xb, hxb⟩ : ∃ xb, w5.heap.size = xb := ⟨_, rfl⟩
  rw [hxb] at hX s9 hsz5
  rw [hxb]
  have hB9 := hB5.tch t9 (by simp)
  have hZ9 := hZ5.tch t9 (by simp)
  replace hR := hR.post t9
  clear t9 hB5 hZ5
  refine get_all hB9 rfl ?_
  refine (bupto_c w9 b n c u1.2.1 a bs 16 (by omega) hR.1).mono ?_
  rintro en w12 ⟨hen, hR2⟩
  have hle2 := rUpto_le (most := 16) (e := 0) h.B hle.1
  unfold tx2
  generalize hu2 : rUpto bs 16 u1.2.1 0 = u2 at *
  have hRn := hR.trans hR2
  by_cases he : u2.2.2 ≠ 0
  · rw [if_pos he] at hen ⊢
    rw [hen]
    refine TxO.bad (st := u2.2) rfl he ?_ hRn.2
    have : u2.2.1 = u1.2.1 := by rw [← hu2] at he ⊢; exact (rUpto_err he).2
    rw [this]
  rw [if_neg he] at hen ⊢
  rw [hen]
  have he0 : u2.2.2 = 0 := by simpa using he
  rw [show u2.2 = (u2.2.1, 0) from Prod.ext rfl he0] at hR2 hRn
  have hB12 := hB9.tch hR2.2 (by simp; omega)
  have hZ12 := hZ9.tch hR2.2 (by simp; omega)
  have hX12 := hX.tch hR2.2 (by simp; omega)
  clear hR hR2 hB9 hZ9 hX hen he he0
  have hs12 := hX12.lt
  generalize hp2 : u2.2.1 = p2 at *
  refine ⟨_, rfl, fun m x u => ∃ (q p' : Nat) (acc : List Int) (la : Option Addr) (lc : Nat), x = q ∧ q ≤ u2.1 ∧ m = u2.1 - q ∧ acc.length = q ∧ RdR w u b a n c bs (p', 0) ∧ p' ≤ bs.length ∧ Blk u rb [Value.pointer (some ⟨b, 0, none⟩)] ∧ Blk u zb [.int .i64 0, .slice none 0 0, .slice none 0 0, .slice none 0 0] ∧ Blk u xb [.int .i64 (u1.1 : Int), .slice la q lc, .slice none 0 0, .slice none 0 0] ∧ u.ownsRow (xb + 1) 2 1 (.slice la q lc) q (i64s acc) ∧ aS bs u2.1 p2 [] = aS bs (u2.1 - q) p' acc ∧ (∀ v ∈ acc, I64 v),
    ⟨u2.1, 0, p2, [], none, 0, rfl, by omega, rfl, rfl, hRn, hle2.1, hB12, hZ12, hX12, own_nil _ _ _ _, rfl, by simp⟩, ?_⟩
  clear hRn hB12 hZ12 hX12
  rintro m w16 x ⟨q, p', acc, la, lc, rfl, hq, rfl, hal, hR, hp', hB, hZ, hX, hown, hk, hai⟩
  rw [hk]
  have hX16 := hX.lt
  by_cases hlt : q < u2.1
  · rw [bif_pos (by omega)]
    obtain ⟨r, hr⟩ : ∃ r, u2.1 - q = r + 1 := ⟨u2.1 - q - 1, by omega⟩
    rw [hr] at hk ⊢
    refine ⟨_, by rw [add_mk]; exact hB.cell 0, ?_⟩
    refine (atR_c w16 b n c p' a bs 0 hR.1).mono ?_
    rintro en w20 ⟨rfl, hw⟩
    rw [hw]
    clear hw
    refine ⟨_, rfl, _, by rw [add_mk]; exact hB.cell 0, ?_⟩
    refine (intR_c w16 b n c p' a bs 0 hR.1).mono ?_
    rintro en w24 ⟨rfl, hR24⟩
    have hB24 := hB.tch hR24.2 (by simp; omega)
    have hZ24 := hZ.tch hR24.2 (by simp; omega)
    have hX24 := hX.tch hR24.2 (by simp; omega)
    have hown24 := own_up hown hR24.2 (fun z hz hm => by
      simp only [List.mem_singleton] at hm
      have := (own_lt hown hz).1
      omega)
    refine ⟨_, rfl, get_all hB24 rfl ?_⟩
    have hRw := hR.trans hR24
    refine (held_c w24 b n c _ a bs _ p' hR24.1).mono ?_
    rintro en w28 ⟨rfl, t28⟩
    replace hRw := hRw.post t28
    have haS : aS bs (r + 1) p' acc = if (rInt bs p' 0).2.2 ≠ 0 then ([], p', (rInt bs p' 0).2.2) else aS bs r (rInt bs p' 0).2.1 (acc ++ [(rInt bs p' 0).1]) := rfl
    by_cases he : (rInt bs p' 0).2.2 ≠ 0
    · rw [if_pos he]
      rw [haS, if_pos he]
      refine TxO.bad (st := (p', (rInt bs p' 0).2.2)) ?_ he rfl hRw.2
      unfold tx3
      rw [if_pos he]
    rw [if_neg he]
    have he0 : (rInt bs p' 0).2.2 = 0 := by simpa using he
    rw [show (rInt bs p' 0).2 = ((rInt bs p' 0).2.1, 0) from Prod.ext rfl he0] at hRw
    obtain ⟨hle3, hi3⟩ := rInt_le h.B hp'
    refine ⟨rfl, ?_⟩
    have hB28 := hB24.tch t28 (by simp)
    have hZ28 := hZ24.tch t28 (by simp)
    have hX28 := hX24.tch t28 (by simp)
    have hown28 := own_up hown24 t28 (fun _ _ h => by cases h)
    have hs28 := hX28.lt
    have hRws := hRw.2.size
    refine ⟨_, _, _, by rw [add_mk]; exact hX28.cell 1, ?_⟩
    refine app_elem_at i64T hown28 (by rw [zcI64']; rfl) (ys := [.int .i64 (rInt bs p' 0).1]) rfl rfl (by simp [one]) (by omega) (by omega) (by omega) fun a5 c5 w33 o5 t5 m5 => ?_
    have hge := own_ge hown28
    have far5 : ∀ k ∈ rowL la, xb + 1 ≤ k := fun k hk => by
      rw [mem_rowL] at hk
      obtain ⟨z, hz, rfl⟩ := hk
      exact (hge z hz).1
    have hX33 := hX28.tch t5 (fun hm => by have := far5 _ hm; omega)
    refine put_cell' hX33 1 (by simp) rfl fun w35 hX35 t35 s35 => ?_
    have q35 := t5
    refine ⟨r, by omega, q + 1, (rInt bs p' 0).2.1, acc ++ [(rInt bs p' 0).1], a5, c5, by rw [wrap_i64 (by omega) (by omega)]; omega, by omega, by omega, by simp [hal], ?_, hle3, ?_, ?_, hX35, ?_, ?_, fun v hm => ?_⟩
    · refine (hRw.far h (Nat.le_refl _) t5 fun k hk => by have := far5 k hk; omega).far h (Nat.le_refl _) t35 fun k hk => by simp at hk; omega
    · exact (hB28.tch t5 (fun hm => by have := far5 _ hm; omega)).tch t35 (by simp; omega)
    · exact (hZ28.tch t5 (fun hm => by have := far5 _ hm; omega)).tch t35 (by simp; omega)
    · rw [show i64s (acc ++ [(rInt bs p' 0).1]) = i64s acc ++ [.int .i64 (rInt bs p' 0).1] by simp]
      exact own_up o5 t35 (fun z hz hm => by
        simp only [List.mem_singleton] at hm
        have := (own_lt o5 hz).1
        omega)
    · rw [haS, if_neg he, show u2.1 - (q + 1) = r by omega]
    · rcases List.mem_append.1 hm with hm | hm
      · exact hai v hm
      · rw [List.mem_singleton.1 hm]; exact hi3
  rw [bif_neg (by omega)]
  have hq0 : u2.1 - q = 0 := by omega
  rw [hq0]
  show ∃ cs38 : List Value, _
  unfold aS tx3
  rw [if_neg (by simp)]
  simp only
  clear hk hq0 hlt
  have hRs := hR.2.size
  refine get_all hB rfl ?_
  refine (set_c w16 b n c p' a bs hR.1).mono ?_
  rintro en w40 hS
  unfold tx4
  have hkok := keysS_ok h.B hp'
  generalize hK1 : keysS bs p' = K1 at *
  unfold SetO at hS
  by_cases he : K1.2.2 ≠ 0
  · rw [if_pos he] at hS ⊢
    rw [hS.1]
    exact TxO.bad (st := K1.2) rfl he rfl (hR.2.trans hS.2 fun k hk => .inl hk)
  rw [if_neg he] at hS ⊢
  obtain ⟨hR40, ra, rc, rfl, hor⟩ := hS
  have he0 : K1.2.2 = 0 := by simpa using he
  rw [show K1.2 = (K1.2.1, 0) from Prod.ext rfl he0] at hR40
  refine ⟨_, _, _, rfl, ?_⟩
  have hB40 := hB.tch hR40.2 (by simp; omega)
  have hZ40 := hZ.tch hR40.2 (by simp; omega)
  have hX40 := hX.tch hR40.2 (by simp; omega)
  have hown40 := own_up hown hR40.2 (fun z hz hm => by
    simp only [List.mem_singleton] at hm
    have := (own_lt hown hz).1
    omega)
  have hRw := hR.trans hR40
  refine put_cell' hX40 2 (by simp) rfl fun w42 hX42 t42 s42 => ?_
  have s40 := hR40.2.size
  have hB42 := hB40.tch t42 (by simp; omega)
  have hZ42 := hZ40.tch t42 (by simp; omega)
  have hown42 := own_up hown40 t42 (fun z hz hm => by
    simp only [List.mem_singleton] at hm
    have := (own_lt hown40 hz).1
    omega)
  have hor42 := own_up hor t42 (fun z hz hm => by
    simp only [List.mem_singleton] at hm
    have := (own_lt hor hz).1
    omega)
  have hR42 := hRw.far h (Nat.le_refl _) t42 (fun k hk => by simp at hk; omega)
  clear hRw hR40 hB40 hZ40 hX40 hown40 hor hR hB hZ hX hown
  refine get_all hB42 rfl ?_
  refine (set_c w42 b n c K1.2.1 a bs hR42.1).mono ?_
  rintro en w45 hS
  unfold tx5
  have hkok2 := keysS_ok h.B hkok.1
  generalize hK2 : keysS bs K1.2.1 = K2 at *
  unfold SetO at hS
  by_cases he2 : K2.2.2 ≠ 0
  · rw [if_pos he2] at hS ⊢
    rw [hS.1]
    exact TxO.bad (st := K2.2) rfl he2 rfl (hR42.2.trans hS.2 fun k hk => .inl hk)
  rw [if_neg he2] at hS ⊢
  obtain ⟨hR45, wa, wc, rfl, how⟩ := hS
  have he02 : K2.2.2 = 0 := by simpa using he2
  rw [show K2.2 = (K2.2.1, 0) from Prod.ext rfl he02] at hR45
  refine ⟨_, _, _, rfl, ?_⟩
  have hZ45 := hZ42.tch hR45.2 (by simp; omega)
  have hX45 := hX42.tch hR45.2 (by simp; omega)
  have hown45 := own_up hown42 hR45.2 (fun z hz hm => by
    simp only [List.mem_singleton] at hm
    have := (own_lt hown42 hz).1
    omega)
  have hor45 := own_up hor42 hR45.2 (fun z hz hm => by
    simp only [List.mem_singleton] at hm
    have := (own_lt hor42 hz).1
    omega)
  have hRw := hR42.trans hR45
  have s45 := hR45.2.size
  refine put_cell' hX45 3 (by simp) rfl fun w47 hX47 t47 s47 => ?_
  have hown47 := own_up hown45 t47 (fun z hz hm => by
    simp only [List.mem_singleton] at hm
    have := (own_lt hown45 hz).1
    omega)
  have hor47 := own_up hor45 t47 (fun z hz hm => by
    simp only [List.mem_singleton] at hm
    have := (own_lt hor45 hz).1
    omega)
  have how47 := own_up how t47 (fun z hz hm => by
    simp only [List.mem_singleton] at hm
    have := (own_lt how hz).1
    omega)
  have hZ47 := hZ45.tch t47 (by simp; omega)
  have hR47 := hRw.far h (Nat.le_refl _) t47 (fun k hk => by simp at hk; omega)
  refine get_all hX47 rfl ?_
  refine put_all (n := 4) hZ47 rfl rfl (by simp [one]) fun w49 hZ49 t49 s49 => ?_
  have hown49 := own_up hown47 t49 (fun z hz hm => by
    simp only [List.mem_singleton] at hm
    have := (own_lt hown47 hz).1
    omega)
  have hor49 := own_up hor47 t49 (fun z hz hm => by
    simp only [List.mem_singleton] at hm
    have := (own_lt hor47 hz).1
    omega)
  have how49 := own_up how47 t49 (fun z hz hm => by
    simp only [List.mem_singleton] at hm
    have := (own_lt how47 hz).1
    omega)
  have hR49 := hR47.far h (Nat.le_refl _) t49 (fun k hk => by simp at hk; omega)
  refine get_all hZ49 rfl ?_
  unfold TxO
  rw [if_neg (by simp)]
  have hI : I64 ((u1.1 : Nat) : Int) := by
    have := hle.2.2
    generalize u1.1 = u at this
    unfold I64
    omega
  refine ⟨hR49, _, rfl, la, q, lc, ra, _, rc, wa, _, wc, rfl, (FR.own hown49 (by simp [one])).mono fun k hk => ⟨by omega, hk.2⟩, (FR.own hor49 kCs_one).mono fun k hk => ⟨by omega, hk.2⟩, (FR.own how49 kCs_one).mono fun k hk => ⟨by omega, hk.2⟩, ⟨hI, hai, hkok.2.1, hkok2.2.1⟩⟩
end Go.Proofs.YtjchneebdlncfaaDoor.Lib
namespace Go.Proofs.YtjchneebdlncfaaDoor.Lib
open Go Den
open Go.RowKit (Below)
open Classical
set_option maxRecDepth 8000
set_option maxHeartbeats 1000000
theorem txT2 : slT Tryd.prog 35 76 4 80 = true := by kernel_rfl
def Btw2 (A B k : Nat) : Prop := A ≤ k ∧ k < B
/-! ### A batch that grows -/
def Grows (B : Nat) (u : World) (x : Option Addr) (k c : Nat) (l : List Tx) : Prop := ∃ vs : List (List Value), vs.length = l.length ∧ k = l.length ∧ u.ownsRow B 76 4 (.slice x k c) k vs.flatten ∧
  ∀ (i : Nat) (v : List Value) (y : Tx), vs[i]? = some v → l[i]? = some y → TxV (fun z => Btw2 B u.heap.size z ∧ z ∉ rowL x) u v y
theorem Grows.nil (B : Nat) (u : World) : Grows B u none 0 0 [] := ⟨[], rfl, rfl, own_nil _ _ _ _, by simp⟩
theorem Grows.row {B : Nat} {u : World} {x : Option Addr} {k c : Nat} {l : List Tx} (h : Grows B u x k c l) : ∀ i ∈ rowL x, B ≤ i ∧ i < u.heap.size := h.elim fun _ h => rowL_ge h.2.2.1
theorem Grows.tch {B : Nat} {u u' : World} {x : Option Addr} {k c : Nat} {l : List Tx} {s : List Nat} (h : Grows B u x k c l) (ht : Tch s u u') (hs : ∀ z ∈ s, z < B ∨ u.heap.size ≤ z) : Grows B u' x k c l := by
  obtain ⟨vs, h1, h2, h3, h4⟩ := h
  have hq := ht.size
  refine ⟨vs, h1, h2, own_keep' h3 fun z hz hlt => ht.block z hlt fun hm => ?_, fun i v y hv hy => ((h4 i v y hv hy).tch ht fun z hz hh => ?_).mono fun z hz => ⟨⟨hz.1.1, by have := hz.1.2; omega⟩, hz.2⟩⟩
  · have := rowL_ge h3 z (mem_rowL.2 hz)
    rcases hs z hm with h | h <;> omega
  · have h1 := hh.1.1
    have h2 := hh.1.2
    rcases hs z hz with h | h <;> omega
theorem Grows.quiet {B : Nat} {u u' : World} {x : Option Addr} {k c : Nat} {l : List Tx} (h : Grows B u x k c l) (ht : Tch [] u u') : Grows B u' x k c l := h.tch ht (by simp)
theorem Grows.done {B : Nat} {u : World} {x : Option Addr} {k c : Nat} {l : List Tx} (h : Grows B u x k c l) : BatchV (Btw2 B u.heap.size) u x k c l := by
  obtain ⟨vs, h1, rfl, h3, h4⟩ := h
  refine ⟨vs, h1, (FR.own h3 ?_).mono fun _ h => h, fun i v y hv hy => (h4 i v y hv hy).mono fun _ h => h.1⟩
  intro u' hu
  obtain ⟨v, hv, hu⟩ := List.mem_flatten.1 hu
  obtain ⟨i, hi⟩ := List.getElem?_of_mem hv
  have hil := (List.getElem?_eq_some_iff.1 hi).1
  exact (h4 i v (l[i]'(by omega)) hi (List.getElem?_eq_getElem (by omega))).ones u' hu
/-- One more, that was made since u0. -/
theorem Grows.push {B : Nat} {u0 u : World} {x : Option Addr} {k c : Nat} {l : List Tx} (h : Grows B u0 x k c l) {s : List Nat} (tq : Tch s u0 u) (hsB : ∀ z ∈ s, z < B) {v : List Value} {y : Tx} (hv : TxV (Btw2 u0.heap.size u.heap.size) u v y) (hB : B ≤ u0.heap.size) (hl : l.length ≤ 100000) {z : List Value} (hz : z.length = 4) {K : Option Addr → Nat → Nat → World → Prop}
    (hK : ∀ a' c' w', Grows B w' a' (k + 1) c' (l ++ [y]) → Tch (rowL x) u w' → (∀ i ∈ rowL x, B ≤ i) → K a' (k + 1) c' w') :
    ∃ cs, fillL (.elems 4) z [(0, .agg v.toArray)] = some cs ∧ ∀ w1 : World, w1 = World.alloc u (.cells (List.toArray cs) 76) →
      RunV Tryd.prog (Builtin.append_ #[35, 35] 35 #[.slice x k c, .slice (some ⟨World.heap u |>.size, 0, none⟩) 1 1]) w1 fun v w' => ∃ (x : Option Addr) (xn : Nat) (xc : Nat), v = (.slice x xn xc) ∧ K x xn xc w' := by
  have hrow0 := h.row
  have hs := tq.size
  obtain ⟨vs, h1, h2, h3, h4⟩ := h
  have hown := own_up h3 tq (fun z hz hm => by have := (own_lt h3 hz).1; have := hsB z hm; omega)
  refine app_elem_at txT2 hown (by omega) (ys := v) rfl hv.len hv.ones (by omega) (by omega) (by omega) fun a5 c5 w34 o5 t5 m5 => ?_
  have q5 := t5.size
  refine hK a5 c5 w34 ⟨vs ++ [v], by simp [h1], by simp [h2], by simpa using o5, ?_⟩ t5 fun i hi => (hrow0 i hi).1
  have moved : ∀ {z : Nat}, z ∉ rowL x → z < u.heap.size → z ∉ rowL a5 := fun hz hlt hm => by
    rw [mem_rowL] at hm
    obtain ⟨ad, rfl, rfl⟩ := hm
    rcases m5 ad rfl with h | h
    · exact hz h
    · omega
  have keep : ∀ {P : Nat → Prop} {v : List Value} {y : Tx}, TxV P u v y → (∀ z, P z → Btw2 B u.heap.size z ∧ z ∉ rowL x) → TxV (fun z => Btw2 B w34.heap.size z ∧ z ∉ rowL a5) w34 v y := fun hfr hP =>
    (hfr.tch t5 fun z hz hp => (hP z hp).2 hz).mono fun z hp => ⟨⟨(hP z hp).1.1, by have := (hP z hp).1.2; omega⟩, moved (hP z hp).2 (hP z hp).1.2⟩
  intro i v' y' hv' hy'
  rw [List.getElem?_append] at hv' hy'
  split at hv'
  · rename_i hil
    rw [if_pos (by omega)] at hy'
    exact keep ((h4 i v' y' hv' hy').tch tq (fun z hz hP => by have := hsB z hz; have := hP.1.1; omega)) fun z h => ⟨⟨h.1.1, by have := h.1.2; omega⟩, h.2⟩
  · rename_i hil
    rw [if_neg (by omega)] at hy'
    by_cases h0 : i - vs.length = 0
    rotate_left
    · rw [List.getElem?_eq_none (by show 1 ≤ _; omega)] at hv'
      cases hv'
    rw [h0] at hv'
    rw [show i - l.length = 0 by omega] at hy'
    cases hv'; cases hy'
    exact keep hv fun z hz => ⟨⟨by have := hz.1; omega, by have := hz.2; omega⟩, fun hm => by have := (hrow0 z hm).2; have := hz.1; omega⟩

/-- What Decode hands back. -/
def DecO (w : World) (D : List Tx × Nat × Int) (en : Ending) (w' : World) : Prop := Tch [] w w' ∧ ∃ (ba : Option Addr) (bn bc : Nat), en = .returned (.tuple #[.slice ba bn bc, .int .i64 (D.2.1 : Int), .int .i64 D.2.2]) ∧
  if D.2.2 ≠ 0 then ba = none ∧ bn = 0 ∧ bc = 0 else BatchV (Btw2 w.heap.size w'.heap.size) w' ba bn bc D.1
end Go.Proofs.YtjchneebdlncfaaDoor.Lib
namespace Go.Proofs.YtjchneebdlncfaaDoor.Lib
open Go Den Fn
open Go.RowKit (Below)
open Classical
set_option maxRecDepth 8000
set_option maxHeartbeats 4000000
theorem brk_assert (x y : Value) (w : World) : Sem.run Tryd.prog (Instr.typeAssert (.iface 141 (.agg #[x, y])) 20 141 true) w = .ok (.tuple #[.agg #[x, y], .bool true]) w := by kernel_rfl
theorem nilQ_nil (K : Bool → Prop) : nilQ 4 .nilIface K = K true := rfl
theorem nilQ_iface (t : TypeId) (u : Value) (K : Bool → Prop) : nilQ 4 (.iface t u) K = K false := rfl
/-- The closure, where nothing was wrong. -/
theorem dfr_calm (w : World) (a0 a1 a2 : Option Addr) {m : Nat} {R : Ending → FrameMode → World → Prop} (hR : R (.returned (.tuple #[])) .returning w) :
    CallsDIn (Fr none) m Tryd.prog 78 #[.pointer a0, .pointer a1, .pointer a2] .returning w R := by
  refine c78 _ _ _ ?_
  rw [show recQ .returning = (.nilIface, .returning) from rfl]
  unfold d78
  rw [nilQ_nil, Bool.not_true, cond_false]
  exact hR
/-- The closure, where a reading gave up. -/
theorem dfr_rec (w : World) (b0 b1 b2 : Nat) {v0 v1 v2 : Value} (h0 : Blk w b0 [v0]) (h1 : Blk w b1 [v1]) (h2 : Blk w b2 [v2]) (h01 : b0 ≠ b1) (h02 : b0 ≠ b2) (h12 : b1 ≠ b2) (p : Nat) (e : Int) {m : Nat} {R : Ending → FrameMode → World → Prop}
    (hR : ∀ w', Blk w' b0 [.slice none 0 0] → Blk w' b1 [.int .i64 p] → Blk w' b2 [.int .i64 e] → Tch [b0, b1, b2] w w' → R (.returned (.tuple #[])) (.panicking [⟨.iface 141 (.agg #[.int .i64 (p : Int), .int .i64 e]), true, false⟩]) w') :
    CallsDIn (Fr none) m Tryd.prog 78 #[.pointer (some ⟨b0, 0, none⟩), .pointer (some ⟨b1, 0, none⟩), .pointer (some ⟨b2, 0, none⟩)] (.panicking (brk p e)) w R := by
  refine c78 _ _ _ ?_
  rw [show recQ (.panicking (brk p e)) = (.iface 141 (.agg #[.int .i64 (p : Int), .int .i64 e]), .panicking [⟨.iface 141 (.agg #[.int .i64 (p : Int), .int .i64 e]), true, false⟩]) from rfl]
  unfold d78
  rw [nilQ_iface, Bool.not_false, cond_true]
  refine ⟨_, _, brk_assert _ _ w, _, rfl, ?_⟩
  refine ⟨_, rfl, _, rfl, ?_⟩
  show ∀ w11 : World, w11 = World.alloc w _ → Array.size (List.toArray [Value.int .i64 (p : Int), .int .i64 e]) = 2 ∧ _
  refine var_init (n := 2) (by rw [zcBroken]; rfl) rfl (by simp [one]) fun w11 w12 kf t12 s12 => ?_
  have l0 := h0.lt
  have l1 := h1.lt
  have l2 := h2.lt
  obtain ⟨fb, hfb⟩ : ∃ fb, w.heap.size = fb := ⟨_, rfl⟩
  rw [hfb] at kf s12 l0 l1 l2
  rw [hfb]
  refine ⟨fun u => u = w12, by rw [Bool.not_true, cond_false], ?_⟩
  rintro w14 rfl w15 rfl
  replace kf := kf.drew
  have td := t12.trans (Tch.refl [] w14).drew (by simp)
  replace h0 := h0.tch td (by simp)
  replace h1 := h1.tch td (by simp)
  replace h2 := h2.tch td (by simp)
  generalize w14.drew = w15 at *
  refine ⟨_, by rw [add_mk]; exact kf.cell 0, _, by rw [add_mk]; exact kf.cell 1, ?_⟩
  refine put_cell' (o := 0) h0 (by simp) rfl fun w19 k0 t19 _ => ?_
  have kf19 := kf.tch t19 (by simp; omega)
  refine ⟨⟨_, by rw [add_mk]; exact kf19.cell 1, rfl, rfl⟩, ⟨_, by rw [add_mk]; exact kf19.cell 0, rfl, rfl⟩, ?_⟩
  refine put_cell' (o := 0) (h1.tch t19 (by simp; omega)) (by simp) rfl fun w23 k1 t23 _ => ?_
  have kf23 := kf19.tch t23 (by simp; omega)
  refine ⟨⟨_, by rw [add_mk]; exact kf23.cell 1, rfl, rfl⟩, ?_⟩
  refine put_cell' (o := 0) ((h2.tch t19 (by simp; omega)).tch t23 (by simp; omega)) (by simp) rfl fun w26 k2 t26 _ => ?_
  refine hR w26 ((k0.tch t23 (by simp; omega)).tch t26 (by simp; omega)) (k1.tch t26 (by simp; omega)) k2 ?_
  have g0 : Tch [b0, b1, b2] w w15 := td.weaken (by simp)
  exact ((g0.trans t19 (by simp)).trans t23 (by simp)).trans t26 (by simp)

theorem zcTxs' : zc Tryd.prog 35 = [.slice none 0 0] := by kernel_rfl
theorem zcInt' : zc Tryd.prog 3 = [.int .i64 0] := by kernel_rfl
theorem zcErr' : zc Tryd.prog 40 = [.int .i64 0] := by kernel_rfl
theorem zcRd' : zc Tryd.prog 144 = [.pointer none] := by kernel_rfl
theorem decode_c (w : World) (bs : List Int) (xa : Option Addr) (n xc : Nat) (hr : RSl w 1 xa n xc (u8 bs)) (hBy : Bytes bs) (hN : n ≤ 140737488355328) :
    Calls Tryd.prog 43 #[.slice xa n xc] w (DecO w (decS bs)) := by
  refine c43 _ _ _ ?_
  unfold d43
  rintro w1 rfl w2 rfl w3 rfl
  refine ⟨rfl, ⟨_, Tryd.func78, by kernel_rfl, by kernel_rfl⟩, ?_⟩
  have k0 : Blk _ _ [.slice none 0 0] := Blk.fresh w (cs := zc Tryd.prog 35) 35 zcTxs'
  have t1 := (Tch.refl [] w).alloc (.cells (zc Tryd.prog 35).toArray 35)
  have s1 := size_alloc w (.cells (zc Tryd.prog 35).toArray 35)
  generalize w.alloc (.cells (zc Tryd.prog 35).toArray 35) = w1 at *
  have k1 : Blk _ _ [.int .i64 0] := Blk.fresh w1 (cs := zc Tryd.prog 3) 3 zcInt'
  have t2 := (Tch.refl [] w1).alloc (.cells (zc Tryd.prog 3).toArray 3)
  have s2 := size_alloc w1 (.cells (zc Tryd.prog 3).toArray 3)
  generalize w1.alloc (.cells (zc Tryd.prog 3).toArray 3) = w2 at *
  have k2 : Blk _ _ [.int .i64 0] := Blk.fresh w2 (cs := zc Tryd.prog 40) 40 zcErr'
  have t3 := (Tch.refl [] w2).alloc (.cells (zc Tryd.prog 40).toArray 40)
  have s3 := size_alloc w2 (.cells (zc Tryd.prog 40).toArray 40)
  generalize w2.alloc (.cells (zc Tryd.prog 40).toArray 40) = w3 at *
  obtain ⟨b0, hb0⟩ : ∃ b, w.heap.size = b := ⟨_, rfl⟩
  obtain ⟨b1, hb1⟩ : ∃ b, w1.heap.size = b := ⟨_, rfl⟩
  obtain ⟨b2, hb2⟩ : ∃ b, w2.heap.size = b := ⟨_, rfl⟩
  rw [hb0] at k0 s1
  rw [hb1] at k1 s2 s1
  rw [hb2] at k2 s3 s2
  rw [hb0, hb1, hb2]
  replace k0 := (k0.tch t2 (by simp)).tch t3 (by simp)
  replace k1 := k1.tch t3 (by simp)
  have t := (t1.trans t2 (by simp)).trans t3 (by simp)
  clear t1 t2 t3 hb1 hb2
  -- the ways out
  have bad : ∀ (u : World) (v0 : Value) (p : Nat) (e : Int), e ≠ 0 → decS bs = ([], p, e) → Blk u b0 [v0] → Blk u b1 [.int .i64 0] → Blk u b2 [.int .i64 0] → Tch [] w u →
      outD Tryd.prog 78 #[.pointer (some ⟨b0, 0, none⟩), .pointer (some ⟨b1, 0, none⟩), .pointer (some ⟨b2, 0, none⟩)] (.panicking (brk p e)) u (outK r43 (DecO w (decS bs)) [(2, .pointer (some ⟨b0, 0, none⟩)), (3, .pointer (some ⟨b1, 0, none⟩)), (4, .pointer (some ⟨b2, 0, none⟩))]) := by
    intro u v0 p e he hd h0 h1 h2 tu
    refine dfr_rec u b0 b1 b2 h0 h1 h2 (by omega) (by omega) (by omega) p e fun w' g0 g1 g2 tw => ?_
    refine ⟨none, 0, 0, g0.cell 0, p, g1.cell 0, e, g2.cell 0, ?_⟩
    rw [hd]
    refine ⟨tu.trans tw fun k hk => .inr ?_, none, 0, 0, rfl, ?_⟩
    · simp at hk
      omega
    · rw [if_pos he]; exact ⟨rfl, rfl, rfl⟩
  refine (read_c w3 bs xa n xc (hr.tch t (fun _ _ h => by cases h)) hBy hN).mono ?_
  rintro en w5 ⟨b, a, c, rfl, hRd, t5, hbge, hage⟩
  have hlen := hRd.len
  have k05 := k0.tch t5 (by simp)
  have k15 := k1.tch t5 (by simp)
  have k25 := k2.tch t5 (by simp)
  replace t := t.trans t5 (by simp)
  clear k0 k1 k2 t5
  have hbl := hRd.blk.lt
  refine ⟨_, rfl, [.pointer (some ⟨b, 0, none⟩)], by rw [zcRd']; rfl, ?_⟩
  refine var_init (n := 1) (by rw [zcRd']; rfl) rfl (by simp [one]) fun w8 w9 kr t9 s9 => ?_
  obtain ⟨rb, hrb⟩ : ∃ rb, w5.heap.size = rb := ⟨_, rfl⟩
  rw [hrb] at kr s9 hbl
  rw [hrb]
  replace hRd := hRd.quiet t9
  replace t := t.trans t9 (by simp)
  have k09 := k05.tch t9 (by simp)
  have k19 := k15.tch t9 (by simp)
  have k29 := k25.tch t9 (by simp)
  have tw : ∀ {u : World}, Tch [b] w9 u → Tch [] w u := fun hh => t.trans hh fun k hk => .inr (by simp at hk; omega)
  clear k05 k15 k25 t9
  refine get_all kr rfl ?_
  refine (bupto_c w9 b n c 0 a bs 64 (by omega) hRd).mono ?_
  rintro en w12 ⟨hen, hR⟩
  have hle := rUpto_le (most := 64) (e := 0) hBy (p := 0) (by omega)
  have hdec : decS bs = dec1 bs (rUpto bs 64 0 0) := rfl
  generalize hu : rUpto bs 64 0 0 = u1 at *
  have far : ∀ {u u' : World} {cs : List Value} {k : Nat}, Blk u k cs → Tch [b] u u' → k ≠ b → Blk u' k cs := fun h ht hk => h.tch ht (by simpa using hk)
  have k012 := far k09 hR.2 (by omega)
  have k112 := far k19 hR.2 (by omega)
  have k212 := far k29 hR.2 (by omega)
  have kr12 := far kr hR.2 (by omega)
  have t12 : Tch [] w w12 := t.trans hR.2 fun k hk => .inr (by simp at hk; omega)
  by_cases he : u1.2.2 ≠ 0
  · rw [if_pos he] at hen
    rw [hen]
    refine bad w12 _ 0 u1.2.2 he ?_ k012 k112 k212 t12
    rw [hdec]
    unfold dec1
    rw [if_pos he]
    have : u1.2.1 = 0 := by rw [← hu] at he ⊢; exact (rUpto_err he).2
    rw [show u1.2 = (u1.2.1, u1.2.2) from rfl, this]
  rw [if_neg he] at hen
  rw [hen]
  have he0 : u1.2.2 = 0 := by simpa using he
  rw [show u1.2 = (u1.2.1, 0) from Prod.ext rfl he0] at hR
  have hdec2 : decS bs = dec2 bs (txsS bs u1.1 u1.2.1 []) := by rw [hdec]; unfold dec1; rw [if_neg he]
  clear hen he he0 k09 k19 k29 kr t
  generalize hp1 : u1.2.1 = p1 at *
  refine ⟨_, rfl, fun m x u => ∃ (q p' : Nat) (acc : List Tx) (la : Option Addr) (lc : Nat), x = q ∧ q ≤ u1.1 ∧ m = u1.1 - q ∧ acc.length = q ∧ Rd u b a n c bs p' 0 ∧ Tch [] w u ∧ Blk u rb [Value.pointer (some ⟨b, 0, none⟩)] ∧ Blk u b0 [.slice la q lc] ∧ Blk u b1 [.int .i64 0] ∧ Blk u b2 [.int .i64 0] ∧ Grows (rb + 1) u la q lc acc ∧ txsS bs u1.1 p1 [] = txsS bs (u1.1 - q) p' acc,
    ⟨u1.1, 0, p1, [], none, 0, rfl, by omega, rfl, rfl, hR.1, t12, kr12, k012, k112, k212, Grows.nil _ _, rfl⟩, ?_⟩
  clear hR k012 k112 k212 kr12
  rintro m w16 x ⟨q, p', acc, la, lc, rfl, hq, rfl, hal, hR, ht, kr, k0, k1, k2, hG, hk⟩
  have hrow := hG.row
  have hk0 := k0.lt
  have hs16 := ht.size
  have hbw : w.heap.size ≤ b := by have := hRd.blk.lt; omega
  by_cases hlt : q < u1.1
  · rw [bif_pos (by omega)]
    obtain ⟨r, hr⟩ : ∃ r, u1.1 - q = r + 1 := ⟨u1.1 - q - 1, by omega⟩
    rw [hr] at hk
    have hkS : txsS bs (r + 1) p' acc = if (txS bs p').2.2 ≠ 0 then ([], (txS bs p').2.1, (txS bs p').2.2) else txsS bs r (txS bs p').2.1 (acc ++ [(txS bs p').1]) := rfl
    rintro w18 rfl
    have td := (Tch.refl [] w16).drew
    have hR18 := hR.quiet td
    have ht18 := ht.trans td (by simp)
    have kr18 := kr.tch td (by simp)
    have k018 := k0.tch td (by simp)
    have k118 := k1.tch td (by simp)
    have k218 := k2.tch td (by simp)
    have hG18 := hG.quiet td
    have s18 := td.size
    generalize w16.drew = w18 at *
    refine ⟨la, q, lc, k018.cell 0, get_all kr18 rfl ?_⟩
    refine (tx_c w18 b n c p' a bs hR18).mono ?_
    rintro en w22 hT
    have hok := txS_ok hBy (p := p') (by have := hR18.le; have := hR18.len; omega)
    unfold TxO at hT
    generalize hTx : txS bs p' = T at *
    by_cases he : T.2.2 ≠ 0
    · rw [if_pos he] at hT
      rw [hT.1]
      have t22 : Tch [] w w22 := ht18.trans hT.2 fun k hk => .inr (by simp at hk; omega)
      refine bad w22 _ T.2.1 T.2.2 he ?_ (far k018 hT.2 (by omega)) (far k118 hT.2 (by omega)) (far k218 hT.2 (by omega)) t22
      rw [hdec2, hk, hkS, if_pos he]
      unfold dec2
      rw [if_pos he]
    rw [if_neg he] at hT
    obtain ⟨hR22, v, rfl, hv⟩ := hT
    have he0 : T.2.2 = 0 := by simpa using he
    rw [show T.2 = (T.2.1, 0) from Prod.ext rfl he0] at hR22
    have k022 := far k018 hR22.2 (by omega)
    have k122 := far k118 hR22.2 (by omega)
    have k222 := far k218 hR22.2 (by omega)
    have kr22 := far kr18 hR22.2 (by omega)
    have ht22 : Tch [] w w22 := ht18.trans hR22.2 fun k hk => .inr (by simp at hk; omega)
    refine ⟨_, rfl, ⟨la, q, lc, k022.cell 0, rfl, rfl⟩, ?_⟩
    have hsB : ∀ z ∈ [b], z < rb + 1 := fun z hz => by simp at hz; omega
    have s22 := hR22.2.size
    have h64 := hle.2.2
    have hnb : rb + 1 ≤ w18.heap.size := by have := kr18.lt; omega
    have key := hG18.push (K := fun x30 x30n x30c w29 => one (.slice x30 x30n x30c) = true ∧ Option.isSome (World.cell? w29 ⟨b0, 0, none⟩) = true ∧ World.frozen? w29 ⟨b0, 0, none⟩ = false ∧
        ∀ w31 : World, w31 = World.setCell w29 ⟨b0, 0, none⟩ (.slice x30 x30n x30c) → ∃ m32, m32 < u1.1 - q ∧ ∃ (q' p' : Nat) (acc : List Tx) (la : Option Addr) (lc : Nat), IntKind.wrap .i64 ((q : Int) + 1) = q' ∧ q' ≤ u1.1 ∧ m32 = u1.1 - q' ∧ acc.length = q' ∧ Rd w31 b a n c bs p' 0 ∧ Tch [] w w31 ∧ Blk w31 rb [Value.pointer (some ⟨b, 0, none⟩)] ∧ Blk w31 b0 [.slice la q' lc] ∧ Blk w31 b1 [.int .i64 0] ∧ Blk w31 b2 [.int .i64 0] ∧ Grows (rb + 1) w31 la q' lc acc ∧ txsS bs u1.1 p1 [] = txsS bs (u1.1 - q') p' acc)
      hR22.2 hsB (v := v) (y := T.1) hv hnb (by omega) (z := zrep (zc Tryd.prog 76) (1 * 4)) (by rw [zcTx']; rfl) ?_
    · obtain ⟨cs, hcs, hrun⟩ := key
      refine ⟨cs, hcs, fun w26 hw => ⟨?_, hrun w26 hw⟩⟩
      refine ⟨la, q, lc, ?_, rfl, rfl⟩
      rw [hw]
      exact (k022.tch ((Tch.refl [] w22).alloc _) (by simp)).cell 0
    · intro a' c' w' hG' t' hge
      have hf : ∀ {k : Nat}, k < rb + 1 → k ∉ rowL la := fun hk hm => by have := hge _ hm; omega
      have k029 := k022.tch t' (hf (by omega))
      refine ⟨rfl, by rw [k029.cell]; rfl, k029.frozen _, ?_⟩
      rintro w31 rfl
      have t31 : Tch [b0] w' (World.setCell w' ⟨b0, 0, none⟩ (.slice a' (q + 1) c')) := (Tch.refl [b0] w').setCell (p := ⟨b0, 0, none⟩) (.inl (by simp)) _
      refine ⟨r, by omega, q + 1, T.2.1, acc ++ [T.1], a', c', by rw [wrap_i64 (by omega) (by omega)]; omega, by omega, by omega, by simp [hal], ?_, ?_, ?_, k029.set 0 _, ?_, ?_, ?_, ?_⟩
      · refine (hR22.1.tch t' (hf (by omega)) ?_).tch t31 (by simp; omega) ?_
        · rcases hRd.row.low (by omega) with hl0 | hl0
          · exact .inl hl0
          · exact .inr fun z hz hm => hf (by have := hl0 z hz; omega) hm
        · refine .inr fun z hz hm => ?_
          simp only [List.mem_singleton] at hm
          have := hage z hz
          omega
      · exact (ht22.trans t' fun k hk => .inr (by have := hge k hk; omega)).trans t31 fun k hk => .inr (by simp at hk; omega)
      · exact (kr22.tch t' (hf (by omega))).tch t31 (by simp; omega)
      · exact (k122.tch t' (hf (by omega))).tch t31 (by simp; omega)
      · exact (k222.tch t' (hf (by omega))).tch t31 (by simp; omega)
      · exact hG'.tch t31 fun z hz => .inl (by simp at hz; omega)
      · rw [hk, hkS, if_neg he, show u1.1 - (q + 1) = r by omega]
  rw [bif_neg (by omega)]
  have hq0 : u1.1 - q = 0 := by omega
  rw [hq0] at hk
  have hks : txsS bs u1.1 p1 [] = (acc, p', 0) := hk
  refine ⟨_, by rw [add_mk]; exact kr.cell 0, ?_⟩
  refine (leftR_c w16 b n c p' a bs 0 hR).mono ?_
  rintro en w36 ⟨rfl, t36⟩
  refine ⟨_, rfl, ?_⟩
  have ht36 := ht.trans t36 (by simp)
  have kr36 := kr.tch t36 (by simp)
  have k036 := k0.tch t36 (by simp)
  have k136 := k1.tch t36 (by simp)
  have k236 := k2.tch t36 (by simp)
  have hG36 := hG.quiet t36
  have hR36 := hR.quiet t36
  have s36 := t36.size
  by_cases hl : p' < n
  · rw [bif_pos (by omega)]
    refine ⟨_, by rw [add_mk]; exact kr36.cell 0, ?_⟩
    refine (atR_c w36 b n c p' a bs 0 hR36).mono ?_
    rintro en w40 ⟨rfl, hw⟩
    rw [hw]
    refine ⟨_, rfl, [.int .i64 p', .int .i64 11], by rw [zcBroken]; rfl, ⟨_, _, rfl⟩, ?_⟩
    refine bad w36 _ p' 11 (by simp) ?_ k036 k136 k236 ht36
    rw [hdec2, hks]
    unfold dec2
    rw [if_neg (by simp), if_pos (by show p' < bs.length; omega)]
  · rw [bif_neg (by omega)]
    have hd : decS bs = (acc, 0, 0) := by
      rw [hdec2, hks]
      unfold dec2
      rw [if_neg (by simp), if_neg (by show ¬ p' < bs.length; omega)]
    refine ⟨la, q, lc, k036.cell 0, rfl, by rw [k036.cell]; rfl, k036.frozen _, ?_⟩
    rintro w44 rfl
    have t44 := (Tch.refl [b0] w36).setCell (p := ⟨b0, 0, none⟩) (.inl (by simp)) (.slice la q lc)
    have g0 : Blk (w36.setCell ⟨b0, 0, none⟩ (.slice la q lc)) b0 [.slice la q lc] := k036.set 0 _
    have g1 := k136.tch t44 (by simp; omega)
    have g2 := k236.tch t44 (by simp; omega)
    have hG44 := hG36.tch t44 fun z hz => .inl (by simp at hz; have := kr36.lt; omega)
    generalize w36.setCell ⟨b0, 0, none⟩ (.slice la q lc) = w44 at *
    refine ⟨rfl, by rw [g1.cell]; rfl, g1.frozen _, ?_⟩
    rintro w45 rfl
    have t45 := (Tch.refl [b1] w44).setCell (p := ⟨b1, 0, none⟩) (.inl (by simp)) (.int .i64 0)
    have j1 : Blk (w44.setCell ⟨b1, 0, none⟩ (.int .i64 0)) b1 [.int .i64 0] := g1.set 0 _
    have j0 := g0.tch t45 (by simp; omega)
    have j2 := g2.tch t45 (by simp; omega)
    have hG45 := hG44.tch t45 fun z hz => .inl (by simp at hz; have := kr36.lt; omega)
    generalize w44.setCell ⟨b1, 0, none⟩ (.int .i64 0) = w45 at *
    refine ⟨rfl, by rw [j2.cell]; rfl, j2.frozen _, ?_⟩
    rintro w46 rfl
    have t46 := (Tch.refl [b2] w45).setCell (p := ⟨b2, 0, none⟩) (.inl (by simp)) (.int .i64 0)
    have l2 : Blk (w45.setCell ⟨b2, 0, none⟩ (.int .i64 0)) b2 [.int .i64 0] := j2.set 0 _
    have l0 := j0.tch t46 (by simp; omega)
    have l1 := j1.tch t46 (by simp; omega)
    have hG46 := hG45.tch t46 fun z hz => .inl (by simp at hz; have := kr36.lt; omega)
    generalize w45.setCell ⟨b2, 0, none⟩ (.int .i64 0) = w46 at *
    have ht46 : Tch [] w w46 := ((ht36.trans t44 fun k hk => .inr (by simp at hk; omega)).trans t45 fun k hk => .inr (by simp at hk; omega)).trans t46 fun k hk => .inr (by simp at hk; omega)
    refine dfr_calm w46 _ _ _ ?_
    refine ⟨la, q, lc, l0.cell 0, 0, l1.cell 0, 0, l2.cell 0, ?_⟩
    rw [hd]
    refine ⟨ht46, la, q, lc, rfl, ?_⟩
    rw [if_neg (by simp)]
    exact hG46.done.mono fun k hk => ⟨by have := hk.1; have := kr36.lt; omega, hk.2⟩
end Go.Proofs.YtjchneebdlncfaaDoor.Lib
namespace Go.Proofs.YtjchneebdlncfaaDoor.Lib
open Go Den Fn
open Go.RowKit (Below)
set_option maxRecDepth 8000
set_option maxHeartbeats 1000000
/-- The record at a place: its kind, its load, the place behind it, the error. -/
def unslR (r : List Int) (p : Nat) : Int × List Int × Nat × Int :=
  if r.length < 9 then (0, [], 0, 10)
  else if crc (r.take 5) ≠ word r 5 then (0, [], 0, 13)
  else if 16777216 < word r 1 then (0, [], 0, 12)
  else if r.length < 13 + (word r 1).toNat then (0, [], 0, 10)
  else if crc ((r.drop 9).take (word r 1).toNat) ≠ word r (9 + (word r 1).toNat) then (0, [], 0, 13)
  else (r.getD 0 0, (r.drop 9).take (word r 1).toNat, p + 13 + (word r 1).toNat, 0)
def unsl (bs : List Int) (p : Nat) : Int × List Int × Nat × Int := unslR (bs.drop p) p
/-- What is asked of an answer. -/
def UnR (w : World) (u : Int × List Int × Nat × Int) (e : Ending) (w' : World) : Prop :=
  ∃ la lc, e = .returned (.tuple #[.int .u8 u.1, .slice la u.2.1.length lc, .int .i64 u.2.2.1, .int .i64 u.2.2.2]) ∧ w'.ownsRow w.heap.size 5 1 (.slice la u.2.1.length lc) u.2.1.length (u8 u.2.1) ∧ Tch [] w w'
theorem UnR.err {w w' : World} {u : Int × List Int × Nat × Int} {k : Int} (hu : u = (0, [], 0, k)) (ht : Tch [] w w') : UnR w u (.returned (.tuple #[.int .u8 0, .slice none 0 0, .int .i64 0, .int .i64 k])) w' := by
  subst hu
  exact ⟨none, 0, rfl, own_nil _ _ _ _, ht⟩
theorem quiet {w w' : World} {a : Option Addr} {n c : Nat} {cs : List Value} (h : RSl w 1 a n c cs) (ht : Tch [] w w') : RSl w' 1 a n c cs := h.tch ht fun _ _ h => by cases h
theorem unseal_c (w : World) (bs : List Int) (a : Option Addr) (n c p : Nat) (hr : RSl w 1 a n c (u8 bs)) (hB : Bytes bs) (hp : p ≤ n) (hN : n ≤ 140737488355328) (hT : Tab w) :
    Calls Tryd.prog 25 #[.slice a n c, .int .i64 p] w fun e w' => UnR w (unsl bs p) e w' := by
  have hn := u8_len hr
  have hcap := hr.cap
  refine c25 _ _ _ _ ?_
  unfold d25
  refine ⟨fun w' => w' = w, ?_, ?_⟩
  · rw [bif_neg (by omega), bif_neg (by omega)]
  rintro w3 rfl
  simp only [Int.toNat_natCast, show Int.toNat 0 = 0 from rfl, show Int.toNat 1 = 1 from rfl, show Int.toNat 5 = 5 from rfl, show Int.toNat 9 = 9 from rfl]
  refine ⟨by omega, by omega, ?_⟩
  have hR := hr.cut (l := p) (hh := n) hp (Nat.le_refl _)
  rw [List.take_of_length_le (by rw [List.length_drop]; omega)] at hR
  have hRl : (bs.drop p).length = n - p := by rw [List.length_drop]; omega
  have hRB := hB.drop p
  generalize (if c = p then a else Option.map (fun y => Addr.add y (p * 1)) a) = A at *
  unfold unsl
  generalize bs.drop p = r at *
  have hRc := hR.cap
  generalize c - p = C at *
  by_cases h9 : n - p < 9
  · rw [bif_pos (by omega)]
    refine UnR.err ?_ (Tch.refl _ _)
    unfold unslR
    rw [if_pos (by omega)]
  rw [bif_neg (by omega)]
  rintro w4 rfl
  have ht4 := (Tch.refl [] w3).drew
  refine ⟨by omega, by omega, by omega, by omega, by omega, by omega, ?_⟩
  refine (sum_c _ (r.take 5) _ _ _ (quiet (by have := hR.cut (l := 0) (hh := 5) (by omega) (by omega); simpa using this) ht4) (hRB.take 5) (by omega) (hT.tch ht4 (by simp))).mono ?_
  rintro e w5 ⟨rfl, rfl⟩
  refine ⟨_, rfl, ?_⟩
  refine (back_c _ ((r.drop 5).take 4) _ _ _ (quiet (hR.cut (l := 5) (hh := 9) (by omega) (by omega)) ht4) ((hRB.drop 5).take 4) (by omega)).mono ?_
  rintro e w6 ⟨rfl, ht6⟩
  replace ht4 := ht4.trans ht6 (by simp)
  clear ht6
  refine ⟨_, rfl, ?_⟩
  rw [word_take _ (by omega), word_drop]
  by_cases h5 : crc (r.take 5) = word r 5
  rotate_left
  · rw [bif_nneg h5]
    refine UnR.err ?_ ht4
    unfold unslR
    rw [if_neg (by omega), if_pos h5]
  rw [bif_npos h5]
  refine ⟨by omega, by omega, by omega, by omega, ?_⟩
  refine (back_c _ ((r.drop 1).take 4) _ _ _ (quiet (hR.cut (l := 1) (hh := 5) (by omega) (by omega)) ht4) ((hRB.drop 1).take 4) (by omega)).mono ?_
  rintro e w7 ⟨rfl, ht7⟩
  replace ht4 := ht4.trans ht7 (by simp)
  clear ht7
  refine ⟨_, rfl, ?_⟩
  rw [word_take _ (by omega), word_drop]
  show bif decide (16777216 < word r 1) then _ else _
  have hw := word_range hRB 1
  by_cases hbig : 16777216 < word r 1
  · rw [bif_pos hbig]
    refine UnR.err ?_ ht4
    unfold unslR
    rw [if_neg (by omega), if_neg (by simpa using h5), if_pos hbig]
  rw [bif_neg hbig]
  obtain ⟨k, hk⟩ := Int.eq_ofNat_of_zero_le hw.1
  have hu : unslR r p = if r.length < 13 + k then (0, [], 0, 10) else if crc ((r.drop 9).take k) ≠ word r (9 + k) then (0, [], 0, 13) else (r.getD 0 0, (r.drop 9).take k, p + 13 + k, 0) := by
    unfold unslR
    rw [if_neg (by omega), if_neg (by simpa using h5), if_neg hbig, hk, Int.toNat_natCast]
  rw [hk, wrap_i64 (n := (k : Int)) (by omega) (by omega), wrap_i64 (n := 13 + (k : Int)) (by omega) (by omega), wrap_i64 (n := 9 + (k : Int)) (by omega) (by omega), show Int.toNat (9 + (k : Int)) = 9 + k by omega]
  by_cases hsh : n - p < 13 + k
  · rw [bif_pos (by omega)]
    exact UnR.err (by rw [hu, if_pos (by omega)]) ht4
  rw [bif_neg (by omega)]
  rw [if_neg (by omega)] at hu
  refine ⟨by omega, by omega, by omega, by omega, ?_⟩
  rintro w8 rfl
  replace ht4 := ht4.drew
  refine ⟨by omega, by omega, ?_⟩
  have hL := hR.cut (l := 9) (hh := 9 + k) (by omega) (by omega)
  rw [show 9 + k - 9 = k by omega] at hL ⊢
  refine (sum_c _ ((r.drop 9).take k) _ _ _ (quiet hL ht4) ((hRB.drop 9).take k) (by omega) (hT.tch ht4 (by simp))).mono ?_
  rintro e w9 ⟨rfl, rfl⟩
  refine ⟨_, rfl, ?_⟩
  refine (back_c _ ((r.drop (9 + k)).take (n - p - (9 + k))) _ _ _ (quiet (hR.cut (l := 9 + k) (hh := n - p) (by omega) (by omega)) ht4) ((hRB.drop (9 + k)).take _) (by omega)).mono ?_
  rintro e w10 ⟨rfl, ht10⟩
  replace ht4 := ht4.trans ht10 (by simp)
  clear ht10
  refine ⟨_, rfl, ?_⟩
  rw [word_take _ (by omega), word_drop, Nat.add_zero]
  by_cases h6 : crc ((r.drop 9).take k) = word r (9 + k)
  rotate_left
  · rw [bif_nneg h6]
    exact UnR.err (by rw [hu, if_pos h6]) ht4
  rw [bif_npos h6]
  rw [if_neg (by simpa using h6)] at hu
  rintro w11' rfl
  replace ht4 := ht4.drew
  generalize w10.drew = w11 at *
  refine ⟨by omega, by omega, ?_⟩
  have hR0 := quiet hR ht4
  have hll : ((r.drop 9).take k).length = k := by rw [List.length_take, List.length_drop]; omega
  have hgo : ∀ w12, Tch [] w11 w12 → optK A fun x => World.cell? w12 (Addr.add x (0 * 1)) = some (.int .u8 (r.getD 0 0)) := by
    intro w12 ht
    obtain ⟨b, o, rfl, g⟩ := (quiet hR0 ht).int (i := 0) (by omega)
    show World.cell? _ _ = _
    rw [add_mk]
    exact g
  cases A with
  | none => exact (hgo _ (Tch.refl _ _)).elim
  | some x =>
    refine ⟨_, hgo _ (Tch.refl _ _), ?_⟩
    refine (clone_c _ ((r.drop 9).take k) _ _ _ (quiet hL ht4) (by omega)).mono ?_
    rintro e w12 ⟨la, lc, rfl, hown, ht12⟩
    refine ⟨_, _, _, rfl, ⟨_, hgo _ ht12, rfl, trivial⟩, ?_⟩
    rw [hu]
    refine ⟨la, lc, ?_, ?_, ht4.trans ht12 (by simp)⟩
    · rw [hll, wrap_i64 (n := (p : Int) + 13) (by omega) (by omega), wrap_i64 (n := (p : Int) + 13 + k) (by omega) (by omega)]
      simp only
      congr 4
    · rw [hll]
      exact own_base hown ht4.size
theorem refUnseal_c (w : World) (bs : List Int) (a : Option Addr) (n c p : Nat) (hr : RSl w 1 a n c (u8 bs)) (hB : Bytes bs) (hp : p ≤ n) (hN : n ≤ 140737488355328) :
    Calls Tryd.prog 26 #[.slice a n c, .int .i64 p] w fun e w' => UnR w (unsl bs p) e w' := by
  have hn := u8_len hr
  have hcap := hr.cap
  refine c26 _ _ _ _ ?_
  unfold d26
  refine ⟨fun w' => w' = w, ?_, ?_⟩
  · rw [bif_neg (by omega), bif_neg (by omega)]
  rintro w3 rfl
  simp only [Int.toNat_natCast, show Int.toNat 0 = 0 from rfl, show Int.toNat 1 = 1 from rfl, show Int.toNat 5 = 5 from rfl, show Int.toNat 9 = 9 from rfl]
  refine ⟨by omega, by omega, ?_⟩
  have hR := hr.cut (l := p) (hh := n) hp (Nat.le_refl _)
  rw [List.take_of_length_le (by rw [List.length_drop]; omega)] at hR
  have hRl : (bs.drop p).length = n - p := by rw [List.length_drop]; omega
  have hRB := hB.drop p
  generalize (if c = p then a else Option.map (fun y => Addr.add y (p * 1)) a) = A at *
  unfold unsl
  generalize bs.drop p = r at *
  have hRc := hR.cap
  generalize c - p = C at *
  by_cases h9 : n - p < 9
  · rw [bif_pos (by omega)]
    refine UnR.err ?_ (Tch.refl _ _)
    unfold unslR
    rw [if_pos (by omega)]
  rw [bif_neg (by omega)]
  rintro w4 rfl
  have ht4 := (Tch.refl [] w3).drew
  refine ⟨by omega, by omega, by omega, by omega, by omega, by omega, ?_⟩
  refine (refSum_c _ (r.take 5) _ _ _ (quiet (by have := hR.cut (l := 0) (hh := 5) (by omega) (by omega); simpa using this) ht4) (hRB.take 5) (by omega)).mono ?_
  rintro e w5 ⟨rfl, rfl⟩
  refine ⟨_, rfl, ?_⟩
  refine (refWord_c _ ((r.drop 5).take 4) _ _ _ (quiet (hR.cut (l := 5) (hh := 9) (by omega) (by omega)) ht4) ((hRB.drop 5).take 4) (by omega)).mono ?_
  rintro e w6 ⟨rfl, ht6⟩
  replace ht4 := ht4.trans ht6 (by simp)
  clear ht6
  refine ⟨_, rfl, ?_⟩
  rw [word_take _ (by omega), word_drop]
  by_cases h5 : crc (r.take 5) = word r 5
  rotate_left
  · rw [bif_nneg h5]
    refine UnR.err ?_ ht4
    unfold unslR
    rw [if_neg (by omega), if_pos h5]
  rw [bif_npos h5]
  refine ⟨by omega, by omega, by omega, by omega, ?_⟩
  refine (refWord_c _ ((r.drop 1).take 4) _ _ _ (quiet (hR.cut (l := 1) (hh := 5) (by omega) (by omega)) ht4) ((hRB.drop 1).take 4) (by omega)).mono ?_
  rintro e w7 ⟨rfl, ht7⟩
  replace ht4 := ht4.trans ht7 (by simp)
  clear ht7
  refine ⟨_, rfl, ?_⟩
  rw [word_take _ (by omega), word_drop]
  have hw := word_range hRB 1
  rw [wrap_i64 (n := word r (1 + 0)) (by rw [Nat.add_zero]; omega) (by rw [Nat.add_zero]; omega), Nat.add_zero]
  by_cases hbig : 16777216 < word r 1
  · rw [bif_pos hbig]
    refine UnR.err ?_ ht4
    unfold unslR
    rw [if_neg (by omega), if_neg (by simpa using h5), if_pos hbig]
  rw [bif_neg hbig]
  obtain ⟨k, hk⟩ := Int.eq_ofNat_of_zero_le hw.1
  have hu : unslR r p = if r.length < 13 + k then (0, [], 0, 10) else if crc ((r.drop 9).take k) ≠ word r (9 + k) then (0, [], 0, 13) else (r.getD 0 0, (r.drop 9).take k, p + 13 + k, 0) := by
    unfold unslR
    rw [if_neg (by omega), if_neg (by simpa using h5), if_neg hbig, hk, Int.toNat_natCast]
  rw [hk, wrap_i64 (n := (k : Int) + 13) (by omega) (by omega), wrap_i64 (n := 13 + (k : Int)) (by omega) (by omega), wrap_i64 (n := 9 + (k : Int)) (by omega) (by omega), show Int.toNat (9 + (k : Int)) = 9 + k by omega, show Int.toNat (13 + (k : Int)) = 13 + k by omega]
  by_cases hsh : n - p < 13 + k
  · rw [bif_pos (by omega)]
    exact UnR.err (by rw [hu, if_pos (by omega)]) ht4
  rw [bif_neg (by omega)]
  rw [if_neg (by omega)] at hu
  rintro w8 rfl
  replace ht4 := ht4.drew
  refine ⟨by omega, by omega, by omega, by omega, by omega, by omega, by omega, by omega, ?_⟩
  have hL := hR.cut (l := 9) (hh := 9 + k) (by omega) (by omega)
  rw [show 9 + k - 9 = k by omega] at hL ⊢
  rw [show 13 + k - (9 + k) = 4 by omega]
  refine (refSum_c _ ((r.drop 9).take k) _ _ _ (quiet hL ht4) ((hRB.drop 9).take k) (by omega)).mono ?_
  rintro e w9 ⟨rfl, rfl⟩
  refine ⟨_, rfl, ?_⟩
  refine (refWord_c _ ((r.drop (9 + k)).take 4) _ _ _ (quiet (by have := hR.cut (l := 9 + k) (hh := 13 + k) (by omega) (by omega); rwa [show 13 + k - (9 + k) = 4 by omega] at this) ht4) ((hRB.drop (9 + k)).take _) (by omega)).mono ?_
  rintro e w10 ⟨rfl, ht10⟩
  replace ht4 := ht4.trans ht10 (by simp)
  clear ht10
  refine ⟨_, rfl, ?_⟩
  rw [word_take _ (by omega), word_drop, Nat.add_zero]
  by_cases h6 : crc ((r.drop 9).take k) = word r (9 + k)
  rotate_left
  · rw [bif_nneg h6]
    exact UnR.err (by rw [hu, if_pos h6]) ht4
  rw [bif_npos h6]
  rw [if_neg (by simpa using h6)] at hu
  refine ⟨by omega, by omega, by omega, by omega, ?_⟩
  have hll : ((r.drop 9).take k).length = k := by rw [List.length_take, List.length_drop]; omega
  refine app_at bT (own_nil w10 w10.heap.size 5 1) (quiet hL ht4) (Nat.le_refl _) (by omega) (by omega) fun la lc w12 h1 h2 h3 => ?_
  rw [Nat.zero_add, List.nil_append] at h1
  rw [Nat.zero_add]
  have h2' : Tch [] w10 w12 := h2
  have hs10 := ht4.size
  replace ht4 := ht4.trans h2' (by simp)
  refine ⟨by omega, by omega, ?_⟩
  have hgo : optK A fun x => World.cell? w12 (Addr.add x (0 * 1)) = some (.int .u8 (r.getD 0 0)) := by
    obtain ⟨b, o, rfl, g⟩ := (quiet hR ht4).int (i := 0) (by omega)
    show World.cell? _ _ = _
    rw [add_mk]
    exact g
  cases A with
  | none => exact hgo.elim
  | some x =>
    refine ⟨_, hgo, ?_⟩
    rw [hu]
    refine ⟨la, lc, ?_, ?_, ht4⟩
    · rw [hll, wrap_i64 (n := (p : Int) + (k : Int)) (by omega) (by omega), wrap_i64 (n := (p : Int) + (k : Int) + 13) (by omega) (by omega)]
      rw [show (p : Int) + k + 13 = ((p + 13 + k : Nat) : Int) by omega]
    · rw [hll]
      exact own_base h1 hs10
end Go.Proofs.YtjchneebdlncfaaDoor.Lib
namespace Go.Proofs.YtjchneebdlncfaaDoor.Lib
open Go Den Fn
open Go.RowKit (Below)
open Classical
set_option maxRecDepth 8000
set_option maxHeartbeats 4000000
theorem unsl_load {bs : List Int} (hB : Bytes bs) (p : Nat) : Bytes (unsl bs p).2.1 ∧ (unsl bs p).2.1.length ≤ bs.length := by
  unfold unsl unslR
  have hl : (bs.drop p).length ≤ bs.length := by rw [List.length_drop]; omega
  repeat' split
  all_goals first | exact ⟨((hB.drop p).drop 9).take _, by rw [List.length_take, List.length_drop]; omega⟩ | exact ⟨by intro y hy; simp at hy, by simp⟩
/-- The load of a frame that is one record of a kind. -/
def loadS (bs : List Int) (kind : Int) : Option (List Int) := if (unsl bs 0).2.2.2 = 0 ∧ (unsl bs 0).2.2.1 = bs.length ∧ (unsl bs 0).1 = kind then some (unsl bs 0).2.1 else none
theorem loadS_some {bs ld : List Int} {kind : Int} (h : loadS bs kind = some ld) : ld = (unsl bs 0).2.1 := by
  unfold loadS at h
  split at h
  · exact (Option.some.inj h).symm
  · cases h
/-- An input's number and an epoch, read: the two, the place and the error behind them. -/
def nmA (bs : List Int) (p : Nat) (e : Int) : Nat × Nat × Int := rUpto bs 15 p e
def nmB (bs : List Int) (p : Nat) (e : Int) : Nat × Nat × Int := rUpto bs 1099511627776 (nmA bs p e).2.1 (nmA bs p e).2.2
def nmK (bs : List Int) (p : Nat) (e : Int) : Int × Int := ((nmA bs p e).1, (nmB bs p e).1)
def NmOk (bs : List Int) (p : Nat) (e : Int) : Prop := (nmB bs p e).2.2 = 0 ∧ 1 ≤ (nmB bs p e).1
theorem nm_le {bs : List Int} (hB : Bytes bs) {p : Nat} {e : Int} (hp : p ≤ bs.length) : (nmB bs p e).2.1 ≤ bs.length ∧ (nmA bs p e).1 ≤ 15 ∧ (nmB bs p e).1 ≤ 1099511627776 := by
  have h1 := rUpto_le (most := 15) (e := e) hB hp
  have h2 := rUpto_le (most := 1099511627776) (e := (nmA bs p e).2.2) hB h1.1
  exact ⟨h2.1, h1.2.2, h2.2.2⟩
noncomputable def pieceL (ld : List Int) : Option (Int × Int × List Tx) :=
  if NmOk ld 0 0 then if (decS (ld.drop (nmB ld 0 0).2.1)).2.2 = 0 then some ((nmK ld 0 0).1, (nmK ld 0 0).2, (decS (ld.drop (nmB ld 0 0).2.1)).1) else none else none
noncomputable def pieceD (bs : List Int) : Option (Int × Int × List Tx) := (loadS bs 77).bind pieceL
noncomputable def wGo (ld : List Int) : Nat → Nat → List (Int × Int) → Option (List (Int × Int))
  | 0, p, acc => if p < ld.length then none else some acc
  | m + 1, p, acc => if NmOk ld p 0 then wGo ld m (nmB ld p 0).2.1 (acc ++ [nmK ld p 0]) else none
noncomputable def wantsL (ld : List Int) : Option (List (Int × Int)) := if (rUpto ld 1024 0 0).2.2 ≠ 0 then none else wGo ld (rUpto ld 1024 0 0).1 (rUpto ld 1024 0 0).2.1 []
noncomputable def wantsD (bs : List Int) : Option (List (Int × Int)) := (loadS bs 87).bind wantsL
/-- What is handed back. -/
def PieceO (w : World) (D : Option (Int × Int × List Tx)) (en : Ending) (w' : World) : Prop := Tch [] w w' ∧ match D with
  | none => en = .returned (.tuple #[.agg #[.int .i64 0, .int .i64 0, .slice none 0 0], .int .i64 264])
  | some (i, n, l) => ∃ a k c, en = .returned (.tuple #[.agg #[.int .i64 i, .int .i64 n, .slice a k c], .int .i64 0]) ∧ BatchV (Btw2 w.heap.size w'.heap.size) w' a k c l
def WantsO (w : World) (D : Option (List (Int × Int))) (en : Ending) (w' : World) : Prop := Tch [] w w' ∧ match D with
  | none => en = .returned (.tuple #[.slice none 0 0, .int .i64 264])
  | some l => ∃ a c, en = .returned (.tuple #[.slice a l.length c, .int .i64 0]) ∧ w'.ownsRow w.heap.size 59 2 (.slice a l.length c) l.length (rows kC l)
theorem loadB {bs ld : List Int} {kind : Int} (h : loadS bs kind = some ld) (hB : Bytes bs) : Bytes ld := by rw [loadS_some h]; exact (unsl_load hB 0).1
theorem load_c (w : World) (bs : List Int) (a : Option Addr) (n c : Nat) (kind : Int) (hr : RSl w 1 a n c (u8 bs)) (hB : Bytes bs) (hN : n ≤ 140737488355328) (hT : Tab w) :
    Calls Tryd.prog 41 #[.slice a n c, .int .u8 kind] w fun e w' => Tch [] w w' ∧ match loadS bs kind with
      | none => e = .returned (.tuple #[.pointer none, .bool false])
      | some ld => ∃ b xa xc, e = .returned (.tuple #[.pointer (some ⟨b, 0, none⟩), .bool true]) ∧ Rd w' b xa ld.length xc ld 0 0 ∧ w.heap.size ≤ b ∧ (∀ x, xa = some x → w.heap.size ≤ x.block) := by
  have hn := u8_len hr
  refine c41 _ _ _ _ ?_
  unfold d41
  refine (unseal_c w bs a n c 0 hr hB (by omega) hN hT).mono ?_
  rintro e w3 ⟨la, lc, rfl, ho, t3⟩
  have hld := unsl_load hB 0
  unfold loadS
  generalize unsl bs 0 = u at *
  obtain ⟨k, ld, nx, er⟩ := u
  simp only at ho hld ⊢
  refine ⟨_, _, _, _, _, _, rfl, _, rfl, _, _, _, rfl, _, rfl, _, rfl, fun u => u = w3 ∧ (er = 0 ∧ nx = bs.length ∧ k = kind), ?_, ?_⟩
  · by_cases h1 : er = 0
    rotate_left
    · rw [bif_nneg h1, if_neg (fun hh => h1 hh.1)]; exact ⟨t3, trivial⟩
    rw [bif_npos h1]
    by_cases h2 : nx = bs.length
    rotate_left
    · rw [bif_nneg (by omega), if_neg (fun hh => h2 hh.2.1)]; exact ⟨t3, trivial⟩
    rw [bif_npos (by omega)]
    by_cases h3 : k = kind
    rotate_left
    · rw [bif_nneg h3, if_neg (fun hh => h3 hh.2.2)]; exact ⟨t3, trivial⟩
    rw [bif_npos h3]
    exact ⟨rfl, h1, h2, h3⟩
  rintro w13 ⟨rfl, hall⟩
  rw [if_pos hall]
  refine (read_c w13 ld la _ lc (own_rsl ho ones_ints) hld.1 (by omega)).mono ?_
  rintro e w15 ⟨b, xa, xc, rfl, hR, t15, hb, hx⟩
  exact ⟨_, rfl, t3.trans t15 (by simp), b, xa, xc, rfl, hR, by have := t3.size; omega, fun x h => by have := hx x h; have := t3.size; omega⟩
theorem name_c (w : World) (b n c p : Nat) (a : Option Addr) (bs : List Int) (e : Int) (h : Rd w b a n c bs p e) :
    Calls Tryd.prog 42 #[.pointer (some ⟨b, 0, none⟩)] w fun en w' => en = .returned (.tuple #[.int .i64 (nmK bs p e).1, .int .i64 (nmK bs p e).2, .bool (decide (NmOk bs p e))]) ∧ RdR w w' b a n c bs (nmB bs p e).2 := by
  refine c42 _ ?_
  unfold d42
  have hle := nm_le (e := e) h.B (by rw [h.len]; exact h.le)
  refine (upto_c w b n c p a bs e 15 h).mono ?_
  rintro en w2 ⟨rfl, hR⟩
  refine ⟨_, rfl, ?_⟩
  refine (upto_c w2 b n c _ a bs _ 1099511627776 hR.1).mono ?_
  rintro en w5 ⟨rfl, hR2⟩
  have hRR := hR.trans hR2
  refine ⟨_, rfl, ?_⟩
  refine (errR_c w5 b n c _ a bs _ hR2.1).mono ?_
  rintro en w8 ⟨rfl, hw⟩
  rw [hw]
  clear hw
  refine ⟨_, rfl, ?_⟩
  change _ ≤ bs.length ∧ (nmA bs p e).1 ≤ 15 ∧ (nmB bs p e).1 ≤ _ at hle
  have hA : IntKind.wrap .i64 (((rUpto bs 15 p e).1 : Nat) : Int) = (nmK bs p e).1 := wrap_i64 (by omega) (by have : (rUpto bs 15 p e).1 ≤ 15 := hle.2.1; omega)
  have hB : IntKind.wrap .i64 (((nmB bs p e).1 : Nat) : Int) = (nmK bs p e).2 := wrap_i64 (by omega) (by omega)
  change (bif decide ((nmB bs p e).2.2 = 0) then _ else _)
  rw [hA]
  by_cases h0 : (nmB bs p e).2.2 = 0
  · rw [bif_pos h0]
    refine (epoch_c _ w5).mono ?_
    rintro en w11 ⟨rfl, hw⟩
    rw [hw]
    refine ⟨_, rfl, ?_, hRR⟩
    change Ending.returned (.tuple #[_, .int .i64 (IntKind.wrap .i64 ((nmB bs p e).1 : Int)), .bool (decide (EpOk (IntKind.wrap .i64 ((nmB bs p e).1 : Int))))]) = _
    rw [hB, show decide (EpOk (nmK bs p e).2) = decide (NmOk bs p e) from decide_eq_decide.2 ⟨fun g => ⟨h0, by have : (1 : Int) ≤ ((nmB bs p e).1 : Int) := g.1; omega⟩, fun g => ⟨by have := g.2; show (1 : Int) ≤ ((nmB bs p e).1 : Int); omega, by show ((nmB bs p e).1 : Int) ≤ _; omega⟩⟩]
  · rw [bif_neg h0]
    refine ⟨?_, hRR⟩
    change Ending.returned (.tuple #[_, .int .i64 (IntKind.wrap .i64 ((nmB bs p e).1 : Int)), .bool false]) = _
    rw [hB, decide_eq_false fun g => h0 g.1]
theorem zcPiece : zc Tryd.prog 37 = [.int .i64 0, .int .i64 0, .slice none 0 0] := by kernel_rfl
theorem decPiece_c (w : World) (bs : List Int) (a : Option Addr) (n c : Nat) (hr : RSl w 1 a n c (u8 bs)) (hB : Bytes bs) (hN : n ≤ 140737488355328) (hT : Tab w) :
    Calls Tryd.prog 18 #[.slice a n c] w (PieceO w (pieceD bs)) := by
  have hn := u8_len hr
  refine c18 _ _ _ ?_
  unfold d18
  rintro w1 rfl
  have hP : Blk _ _ [Value.int .i64 0, .int .i64 0, .slice none 0 0] := Blk.fresh w (cs := zc Tryd.prog 37) 37 zcPiece
  have t1 := (Tch.refl [] w).alloc (.cells (zc Tryd.prog 37).toArray 37)
  have s1 := size_alloc w (.cells (zc Tryd.prog 37).toArray 37)
  generalize w.alloc (.cells (zc Tryd.prog 37).toArray 37) = w1 at *
  obtain ⟨pb, hpb⟩ : ∃ pb, w.heap.size = pb := ⟨_, rfl⟩
  rw [hpb] at hP s1 ⊢
  -- the answer that is put together
  have fin : ∀ {u : World} {cs : List Value} {D : Option (Int × Int × List Tx)} {k : Int}, Tch [] w u → Blk u pb [Value.int .i64 0, .int .i64 0, .slice none 0 0] → cs.length = 3 → (∀ v ∈ cs, one v = true) →
      (∀ u', Tch [pb] u u' → Tch [] w u' → PieceO w D (.returned (.tuple #[.agg cs.toArray, .int .i64 k])) u') →
      Array.size (List.toArray cs) = 3 ∧ (∀ u ∈ Array.toList (List.toArray cs), one u = true) ∧ Room u ⟨pb, 0, none⟩ 3 ∧ ∀ w9 : World, w9 = setCells u ⟨pb, 0, none⟩ (Array.toList (List.toArray cs)) 0 → ∃ cs10 : List Value, List.length cs10 = 3 ∧ Cells w9 ⟨pb, 0, none⟩ cs10 ∧ PieceO w D (.returned (.tuple #[.agg (List.toArray cs10), .int .i64 k])) w9 := fun {u cs D k} ht hb hl ho hK =>
    put_all hb rfl hl ho fun u' h2 h3 h4 => get_all h2 hl (hK u' h3 (ht.trans h3 fun z hz => .inr (by simp at hz; omega)))
  refine (load_c w1 bs a n c 77 (hr.tch t1 (fun _ _ h => by cases h)) hB hN (hT.since t1)).mono ?_
  rintro e w3 ⟨t3, hL⟩
  have hP3 := hP.tch t3 (by simp)
  have q3 := t1.trans t3 (by simp)
  unfold pieceD
  cases hld : loadS bs 77 with
  | none =>
    rw [hld] at hL
    obtain rfl := hL
    refine ⟨_, _, rfl, _, rfl, _, rfl, ?_⟩
    rw [show (!false) = true from rfl, cond_true]
    exact ⟨_, by rw [zcPiece]; rfl, fin q3 hP3 rfl (by simp [one]) fun u' _ t => ⟨t, rfl⟩⟩
  | some ld =>
    rw [hld] at hL
    obtain ⟨b, xa, xc, rfl, hR, hb, hx⟩ := hL
    have hldl : ld.length ≤ bs.length := by rw [loadS_some hld]; exact (unsl_load hB 0).2
    refine ⟨_, _, rfl, _, rfl, _, rfl, ?_⟩
    rw [show (!true) = false from rfl, cond_false]
    refine (name_c w3 b ld.length xc 0 xa ld 0 hR).mono ?_
    rintro e w12 ⟨rfl, hR12⟩
    refine ⟨_, _, _, rfl, _, rfl, _, rfl, _, rfl, ?_⟩
    have hpbb : pb ≠ b := by omega
    have hP12 := hP3.tch hR12.2 (by simpa using hpbb)
    have q12 : Tch [] w w12 := q3.trans hR12.2 fun z hz => .inr (by simp at hz; omega)
    show (bif !decide (NmOk ld 0 0) then ∃ cs19, _ ∧ _ else _)
    simp only [Option.bind_some]
    unfold pieceL
    by_cases hok : NmOk ld 0 0
    rotate_left
    · rw [if_neg hok, decide_eq_false hok, show (!false) = true from rfl, cond_true]
      exact ⟨_, by rw [zcPiece]; rfl, fin q12 hP12 rfl (by simp [one]) fun u' _ t => ⟨t, rfl⟩⟩
    rw [if_pos hok, decide_eq_true hok, show (!true) = false from rfl, cond_false]
    have hok0 := hok.1
    have hple := (nm_le (e := 0) (loadB hld hB) (p := 0) (by omega)).1
    generalize hnp : (nmB ld 0 0).2 = st at *
    obtain ⟨p, er⟩ := st
    simp only at hok0 hple hR12 ⊢
    subst hok0
    refine (leftR_c w12 b ld.length xc p xa ld 0 hR12.1).mono ?_
    rintro e w23 ⟨rfl, t23⟩
    refine ⟨_, rfl, ?_⟩
    have hR23 := hR12.1.quiet t23
    rw [show ((ld.length : Nat) : Int) - (p : Int) = ((ld.length - p : Nat) : Int) by omega]
    refine (rawR_c w23 b ld.length xc p xa ld 0 _ hR23).mono ?_
    have hraw : (rRaw ld ((ld.length - p : Nat) : Int) p 0) = (ld.drop p, p + (ld.length - p), 0) := by
      rcases rRaw_cases ld (ld.length - p) p 0 with g | g
      · rw [g.2.2, List.take_of_length_le (by rw [List.length_drop]; omega)]
      · exact absurd ⟨rfl, by omega⟩ g.1
    rw [hraw]
    rintro e w26 ⟨ya, yc, rfl, hR26, hy⟩
    refine ⟨_, _, _, rfl, ?_⟩
    have hP26 := (hP12.tch t23 (by simp)).tch hR26.2 (by simpa using hpbb)
    have q26 : Tch [] w w26 := (q12.trans t23 (by simp)).trans hR26.2 fun z hz => .inr (by simp at hz; omega)
    refine (decode_c w26 (ld.drop p) ya _ yc (own_rsl hy ones_ints) ((loadB hld hB).drop p) (by rw [List.length_drop]; omega)).mono ?_
    rintro e w29 ⟨t29, ba, bn, bc, rfl, hbat⟩
    refine ⟨_, _, _, _, _, rfl, _, _, _, rfl, _, rfl, _, rfl, ?_⟩
    have hP29 := hP26.tch t29 (by simp)
    have q29 := q26.trans t29 (by simp)
    generalize decS (ld.drop p) = D at *
    by_cases hD : D.2.2 = 0
    rotate_left
    · rw [bif_nneg hD, if_neg hD]
      exact ⟨_, by rw [zcPiece]; rfl, fin q29 hP29 rfl (by simp [one]) fun u' _ t => ⟨t, rfl⟩⟩
    rw [bif_npos hD, if_pos hD]
    rw [if_neg (by simpa using hD)] at hbat
    refine ⟨[.int .i64 (nmK ld 0 0).1, .int .i64 (nmK ld 0 0).2, .slice ba bn bc], by rw [zcPiece]; rfl, fin q29 hP29 rfl (by simp [one]) fun u' tp t => ⟨t, ba, bn, bc, rfl, ?_⟩⟩
    refine (hbat.tch tp fun z hz hF => ?_).mono fun z hz => ⟨?_, ?_⟩
    · simp only [List.mem_singleton] at hz
      subst hz
      have := hF.1; have := q26.size; have := hP26.lt
      omega
    · have := hz.1; have := q26.size; omega
    · have := hz.2; have := tp.size; omega
theorem wantT : slT Tryd.prog 38 59 2 16 = true := by kernel_rfl
theorem zcWants : zrep (zc Tryd.prog 59) (1 * 2) = kC (0, 0) := by kernel_rfl
theorem decWants_c (w : World) (bs : List Int) (a : Option Addr) (n c : Nat) (hr : RSl w 1 a n c (u8 bs)) (hB : Bytes bs) (hN : n ≤ 140737488355328) (hT : Tab w) :
    Calls Tryd.prog 20 #[.slice a n c] w (WantsO w (wantsD bs)) := by
  have hn := u8_len hr
  refine c20 _ _ _ ?_
  unfold d20
  refine (load_c w bs a n c 87 hr hB hN hT).mono ?_
  rintro e w2 ⟨t2, hL⟩
  unfold wantsD
  cases hld : loadS bs 87 with
  | none =>
    rw [hld] at hL
    obtain rfl := hL
    refine ⟨_, _, rfl, _, rfl, _, rfl, ?_⟩
    rw [show (!false) = true from rfl, cond_true]
    exact ⟨t2, rfl⟩
  | some ld =>
    rw [hld] at hL
    obtain ⟨b, xa, xc, rfl, hR, hb, hx⟩ := hL
    have hldl : ld.length ≤ bs.length := by rw [loadS_some hld]; exact (unsl_load hB 0).2
    have hLB := loadB hld hB
    refine ⟨_, _, rfl, _, rfl, _, rfl, ?_⟩
    rw [show (!true) = false from rfl, cond_false]
    simp only [Option.bind_some]
    refine (upto_c w2 b ld.length xc 0 xa ld 0 1024 hR).mono ?_
    rintro e w8 ⟨rfl, hR8⟩
    have hle := rUpto_le (most := 1024) (e := 0) hLB (p := 0) (by omega)
    have hue : (rUpto ld 1024 0 0).2.2 ≠ 0 → (rUpto ld 1024 0 0).1 = 0 ∧ (rUpto ld 1024 0 0).2.1 = 0 := rUpto_err
    unfold wantsL
    generalize rUpto ld 1024 0 0 = u at *
    obtain ⟨cnt, p1, e1⟩ := u
    simp only at hle hue hR8 ⊢
    generalize hDd : (if e1 ≠ 0 then none else wGo ld cnt p1 []) = D
    have hbl := hR8.1.blk.lt
    have hs8 := hR8.2.size
    have hbl2 := hR.blk.lt
    have hlow := hR.row.low (by omega)
    have hrow : ∀ {u : World}, Tch [b] w2 u → Tch [] w u := fun t => t2.trans t fun z hz => .inr (by simp at hz; omega)
    refine ⟨_, rfl, fun m la ln lc x u => ∃ (q p' : Nat) (acc : List (Int × Int)), x = ((cnt - q : Nat) : Int) ∧ q ≤ cnt ∧ m = cnt - q ∧ acc.length = q ∧ ln = q ∧ Rd u b xa ld.length xc ld p' e1 ∧ Tch [] w u ∧ w8.heap.size ≤ u.heap.size ∧ u.ownsRow w8.heap.size 59 2 (.slice la ln lc) ln (rows kC acc) ∧ (e1 = 0 → D = wGo ld (cnt - q) p' acc) ∧ (e1 ≠ 0 → D = none ∧ cnt = 0),
      ⟨cnt, 0, p1, [], by simp, by omega, rfl, rfl, rfl, hR8.1, hrow hR8.2, Nat.le_refl _, own_nil _ _ _ _, fun he => by rw [← hDd, if_neg (by simpa using he)]; rfl, fun he => ⟨by rw [← hDd, if_pos he], (hue he).1⟩⟩, ?_⟩
    clear hR8
    rintro m w12 la ln lc x ⟨q, p', acc, rfl, hq, rfl, hal, rfl, hR, ht, hsz, hown, hk, hbad⟩
    by_cases hlt : ln < cnt
    · rw [bif_pos (by omega)]
      obtain rfl : e1 = 0 := Classical.byContradiction fun he => by have := (hbad he).2; omega
      have hp := hR.le
      obtain ⟨r, hr'⟩ : ∃ r, cnt - ln = r + 1 := ⟨cnt - ln - 1, by omega⟩
      replace hk := hk rfl
      rw [hr'] at hk
      have hstep : wGo ld (r + 1) p' acc = if NmOk ld p' 0 then wGo ld r (nmB ld p' 0).2.1 (acc ++ [nmK ld p' 0]) else none := rfl
      refine (name_c w12 b ld.length xc p' xa ld 0 hR).mono ?_
      rintro e w16 ⟨rfl, hR16⟩
      refine ⟨_, _, _, rfl, _, rfl, _, rfl, _, rfl, ?_⟩
      have q16 : Tch [] w w16 := ht.trans hR16.2 fun z hz => .inr (by simp at hz; omega)
      show (bif !decide (NmOk ld p' 0) then _ else ∃ cs23, fillL _ _ [(0, Value.int .i64 (nmK ld p' 0).1), (1, .int .i64 (nmK ld p' 0).2)] = some cs23 ∧ _)
      by_cases hok : NmOk ld p' 0
      rotate_left
      · rw [decide_eq_false hok, show (!false) = true from rfl, cond_true, hk, hstep, if_neg hok]
        exact ⟨q16, rfl⟩
      rw [decide_eq_true hok, show (!true) = false from rfl, cond_false]
      refine ⟨kC (nmK ld p' 0), by rw [zcWant]; rfl, ?_⟩
      rw [zcWants]
      have hown16 := own_up hown hR16.2 (fun z hz hm => by
        simp only [List.mem_singleton] at hm
        have := (own_lt hown hz).1
        omega)
      have hs16 := hR16.2.size
      refine app_elem_at (z := kC (0, 0)) (ys := kC (nmK ld p' 0)) wantT hown16 rfl rfl rfl kC_one (by omega) (by omega) (by omega) fun a' c' w27 ho27 t27 _ => ?_
      have hok0 := hok.1
      have hg : ∀ k ∈ rowL la, w8.heap.size ≤ k := fun k hk => (rowL_ge hown16 k hk).1
      have hs27 := t27.size
      have hst : (nmB ld p' 0).2 = ((nmB ld p' 0).2.1, 0) := Prod.ext rfl hok0
      rw [hst] at hR16
      refine ⟨r, by omega, ln + 1, (nmB ld p' 0).2.1, acc ++ [nmK ld p' 0], by rw [wrap_u64 (by omega) (by omega)]; omega, by omega, by omega, by simp [hal], rfl, ?_, ?_, by omega, ?_, fun _ => by rw [hk, hstep, if_pos hok, show cnt - (ln + 1) = r by omega], fun he => absurd rfl he⟩
      · exact hR16.1.tch t27 (fun hm => by have := hg _ hm; omega) (hlow.imp id fun hl z hz hm => by have := hl z hz; have := hg _ hm; omega)
      · exact q16.trans t27 fun z hz => .inr (by have := hg z hz; have := ht.size; have := t2.size; omega)
      · rw [rows_append]
        exact ho27
    · rw [bif_neg (by omega)]
      refine (endR_c w12 b ld.length xc p' xa ld e1 hR).mono ?_
      rintro e w31 ⟨rfl, t31⟩
      refine ⟨_, rfl, ?_⟩
      have q31 := ht.trans t31 (by simp)
      have hown31 := own_up hown t31 (fun _ _ h => by cases h)
      by_cases he : e1 = 0
      · subst he
        rw [hk rfl, show cnt - ln = 0 by omega]
        unfold rEnd wGo
        by_cases hp : p' < ld.length
        · rw [if_pos ⟨rfl, hp⟩, if_pos hp, bif_nneg (by omega)]
          exact ⟨q31, rfl⟩
        · rw [if_neg (fun h => hp h.2), if_neg hp, bif_npos rfl]
          refine ⟨q31, la, lc, by rw [hal], ?_⟩
          rw [hal]
          exact own_base hown31 (by have := t2.size; omega)
      · rw [(hbad he).1]
        unfold rEnd
        rw [if_neg (fun h => he h.1), bif_nneg he]
        exact ⟨q31, rfl⟩
end Go.Proofs.YtjchneebdlncfaaDoor.Lib
