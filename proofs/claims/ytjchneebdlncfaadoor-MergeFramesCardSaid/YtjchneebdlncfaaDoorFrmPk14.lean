/-
  FRAMES' LAWS: Copy, handed, wide; what is decoded is small.
  FRAMES' LAW: MergeFrames answers true.
  ARGUMENTS THAT ARE NESTED ROWS: what the row's reading says of memory ('open_rep').
  ARGUMENTS WHOSE WEIGHTS ARE BOUNDED: every slice in what is read is at most so long ('open_repB').
  FRAMES' LAWS: how their arguments are read.
  PROVED HERE: the card of MergeFrames: Encode and Decode of pieces, wants and any bytes.
  Own work. No macro, syntax, notation, axiom.
-/
import Derived.Test.YtjchneebdlncfaaDoorFrmPk13
import Derived.Test.YtjchneebdlncfaaDoorFrmPk3
import Derived.Test.YtjchneebdlncfaaDoorFrmPk6
import Derived.Test.YtjchneebdlncfaaDoorFrmPk4
namespace Go.Proofs.YtjchneebdlncfaaDoor.Frm
open Go Den Fn Lib
open Go.RowKit (Below)
open Classical
set_option maxRecDepth 8000
set_option maxHeartbeats 4000000
theorem txS_sm {bs : List Int} (hB : Bytes bs) {p : Nat} (hp : p ≤ bs.length) : Sm (txS bs p).1 := by
  have hz : Sm Tx.zero := ⟨by simp [Tx.zero], by simp [Tx.zero], by simp [Tx.zero]⟩
  have h1 := rUpto_le hB (most := 63) (e := 0) hp
  have h2 := rUpto_le hB (most := 16) (e := 0) h1.1
  unfold txS
  generalize rUpto bs 63 p 0 = u1 at *
  generalize hu2 : rUpto bs 16 u1.2.1 0 = u2 at *
  unfold tx1
  rw [hu2]
  split
  · exact hz
  have h3 := aS_ok hB (m := u2.1) (acc := []) h2.1 (by simp)
  unfold tx2
  generalize aS bs u2.1 u2.2.1 [] = A at *
  split
  · exact hz
  unfold tx3
  split
  · exact hz
  have h4 := keysS_ok hB h3.1
  generalize keysS bs A.2.1 = R at *
  unfold tx4
  split
  · exact hz
  have h5 := keysS_ok hB h4.1
  generalize keysS bs R.2.1 = W at *
  unfold tx5
  split
  · exact hz
  have := h3.2.2
  have := h4.2.2
  have := h5.2.2
  refine ⟨?_, ?_, ?_⟩
  · show A.1.length ≤ _
    simp at *
    omega
  · show R.1.length ≤ _
    omega
  · show W.1.length ≤ _
    omega
theorem txsS_sm {bs : List Int} (hB : Bytes bs) : ∀ {m p : Nat} {acc : List Tx}, p ≤ bs.length → (∀ x ∈ acc, Sm x) → (∀ x ∈ (txsS bs m p acc).1, Sm x) ∧ (txsS bs m p acc).1.length ≤ acc.length + m
  | 0, p, acc, _, ha => ⟨ha, by simp [txsS]⟩
  | m + 1, p, acc, hp, ha => by
    unfold txsS
    split
    · exact ⟨by simp, by simp⟩
    · have := txsS_sm hB (m := m) (p := (txS bs p).2.1) (acc := acc ++ [(txS bs p).1]) (txS_ok hB hp).1 fun x hx => by
        rcases List.mem_append.1 hx with hx | hx
        · exact ha x hx
        · rw [List.mem_singleton.1 hx]; exact txS_sm hB hp
      refine ⟨this.1, ?_⟩
      have := this.2
      rw [List.length_append, List.length_singleton] at this
      omega
theorem decS_small {bs : List Int} (hB : Bytes bs) : Smalls (decS bs).1 := by
  have h0 : Smalls [] := ⟨by simp, by simp⟩
  have h1 := rUpto_le hB (most := 64) (e := 0) (p := 0) (by omega)
  unfold decS dec1
  split
  · exact h0
  have h2 := txsS_sm hB (m := (rUpto bs 64 0 0).1) (acc := []) h1.1 (by simp)
  unfold dec2
  split
  · exact h0
  split
  · exact h0
  refine ⟨?_, h2.1⟩
  have := h2.2
  simp at this
  show (txsS bs _ _ []).1.length ≤ _
  omega
theorem pieceD_small {bs : List Int} (hB : Bytes bs) {i n : Int} {l : List Tx} (h : pieceD bs = some (i, n, l)) : Smalls l := by
  unfold pieceD at h
  cases hld : loadS bs 77 with
  | none => rw [hld] at h; cases h
  | some ld =>
    rw [hld] at h
    simp only [Option.bind_some] at h
    unfold pieceL at h
    split at h
    · split at h
      · cases h
        exact decS_small ((loadB hld hB).drop _)
      · cases h
    · cases h
theorem wGo_kI {ld : List Int} (hB : Bytes ld) : ∀ {m p : Nat} {acc l : List (Int × Int)}, p ≤ ld.length → (∀ k ∈ acc, kI k) → wGo ld m p acc = some l → (∀ k ∈ l, kI k) ∧ l.length = acc.length + m
  | 0, p, acc, l, _, ha, h => by
    unfold wGo at h
    split at h
    · cases h
    · cases h; exact ⟨ha, rfl⟩
  | m + 1, p, acc, l, hp, ha, h => by
    unfold wGo at h
    split at h
    · have hle := nm_le (e := 0) hB hp
      have := wGo_kI hB hle.1 (fun k hk => by
        rcases List.mem_append.1 hk with hk | hk
        · exact ha k hk
        · rw [List.mem_singleton.1 hk]
          refine ⟨?_, ?_⟩
          · show I64 (((nmA ld p 0).1 : Nat) : Int)
            unfold I64; omega
          · show I64 (((nmB ld p 0).1 : Nat) : Int)
            unfold I64; omega) h
      refine ⟨this.1, ?_⟩
      rw [this.2, List.length_append, List.length_singleton]
      omega
    · cases h
theorem wantsD_ok {bs : List Int} (hB : Bytes bs) {l : List (Int × Int)} (h : wantsD bs = some l) : (∀ k ∈ l, kI k) ∧ l.length ≤ 1024 := by
  unfold wantsD at h
  cases hld : loadS bs 87 with
  | none => rw [hld] at h; cases h
  | some ld =>
    rw [hld] at h
    simp only [Option.bind_some] at h
    have hle := rUpto_le (loadB hld hB) (most := 1024) (e := 0) (p := 0) (by omega)
    unfold wantsL at h
    split at h
    · cases h
    · have := wGo_kI (loadB hld hB) hle.1 (by simp) h
      refine ⟨this.1, ?_⟩
      rw [this.2]
      simpa using hle.2.2
theorem keyT : slT Tryd.prog 74 129 2 16 = true := by kernel_rfl
theorem i64s_ones : ∀ {l : List Int}, ∀ u ∈ i64s l, one u = true := by
  intro l u hu
  simp only [i64s, List.mem_map] at hu
  obtain ⟨x, _, rfl⟩ := hu
  rfl
theorem kCs_ones {l : List (Int × Int)} : ∀ u ∈ rows kC l, one u = true := by
  intro u hu
  simp only [rows, List.mem_flatten, List.mem_map] at hu
  obtain ⟨r, ⟨k, _, rfl⟩, hu⟩ := hu
  exact kC_one u hu
theorem copy_c {F : Nat → Prop} (w : World) (a : Option Addr) (n c : Nat) (l : List Tx) (h : BatchV F w a n c l) (hs : Smalls l) :
    Calls Tryd.prog 35 #[.slice a n c] w fun e w' => ∃ a' c', e = .returned (.slice a' n c') ∧ BatchV (Btw2 w.heap.size w'.heap.size) w' a' n c' l ∧ Tch [] w w' := by
  have hn := h.count
  have hs0 := hs.1
  refine c35 _ _ _ ?_
  unfold d35
  refine ⟨fun m x k xc i u => ∃ q : Nat, i = q ∧ q ≤ n ∧ m = n - q ∧ k = q ∧ Grows w.heap.size u x k xc (l.take q) ∧ Tch [] w u, ⟨n, 0, rfl, by omega, rfl, rfl, Grows.nil _ _, Tch.refl _ _⟩, ?_⟩
  rintro m w3 x k xc i ⟨q, rfl, hq, rfl, rfl, hG, ht⟩
  by_cases hlt : k < n
  rotate_left
  · rw [bif_neg (by omega)]
    rw [List.take_of_length_le (by omega)] at hG
    obtain rfl : k = n := by omega
    exact ⟨x, xc, rfl, hG.done, ht⟩
  rw [bif_pos (by omega)]
  have hi : l[k]? = some (l[k]'(by omega)) := List.getElem?_eq_getElem (by omega)
  have hym := List.getElem_mem (show k < l.length by omega)
  have htk : l.take (k + 1) = l.take k ++ [l[k]'(by omega)] := List.take_succ_eq_append_getElem (by omega)
  generalize l[k]'(by omega) = y at hi hym htk
  obtain ⟨hy1, hy2, hy3⟩ := hs.2 y hym
  obtain ⟨b, o, a1, n1, c1, a2, n2, c2, a3, n3, c3, rfl, hcell, g1, g2, g3, hv⟩ := h.parts hi
  have hok := h.ok y hym
  have e1 := args_count g1
  have e2 := keys_count g2
  have e3 := keys_count g3
  have field : ∀ (u : World), Tch [] w u → ∀ (j : Nat) (v : Value), [Value.int .i64 y.proc, .slice a1 n1 c1, .slice a2 n2 c2, .slice a3 n3 c3][j]? = some v → World.cell? u (Addr.add (Addr.add ⟨b, o, none⟩ (k * 4)) j) = some v := fun u hu j v hv => by
    rw [add_mk, add_mk]
    exact cells_get (hcell u hu) hv
  refine ⟨by omega, by omega, ?_⟩
  rw [Int.toNat_natCast]
  refine ⟨y.proc, field w3 ht 0 _ rfl, [.int .i64 y.proc, .slice none 0 0, .slice none 0 0, .slice none 0 0], by rw [zcTx']; rfl, ?_⟩
  refine var_init (n := 4) (by rw [zcTx']; rfl) rfl (by simp [one]) fun w9 w10 hX t10 s10 => ?_
  obtain ⟨xb, hxb⟩ : ∃ xb, w3.heap.size = xb := ⟨_, rfl⟩
  rw [hxb] at hX s10 ⊢
  have hs3 := ht.size
  rintro w11 rfl
  have hX11 := hX.tch (Tch.refl [] w10).drew (by simp)
  have q11 := (ht.trans t10 (by simp)).trans (Tch.refl [] w10).drew (by simp)
  have p11 : Tch [] w3 w10.drew := t10.trans (Tch.refl [] w10).drew (by simp)
  have s11 : w10.drew.heap.size = xb + 1 := s10
  generalize w10.drew = w11 at *
  refine ⟨none, 0, 0, by rw [add_mk]; exact hX11.cell 1, by omega, by omega, a1, n1, c1, field w11 q11 1 _ rfl, ?_⟩
  refine app_at (base := xb + 1) i64T (own_nil _ _ _ _) (g1.tch q11 (by simp)).1 (by omega) (by omega) (by omega) fun A1 C1 w16 o1 t16 _ => ?_
  have hX16 := hX11.tch t16 (by simp [rowL])
  have p16 : Tch [] w3 w16 := p11.trans t16 (by simp [rowL])
  refine put_cell' hX16 1 (by simp) rfl fun w18 hX18 t18 s18 => ?_
  have far : ∀ {u u' : World}, Tch [] w3 u → Tch [xb] u u' → Tch [] w3 u' := fun h1 h2 => h1.trans h2 fun z hz => .inr (by simp at hz; omega)
  have p18 := far p16 t18
  have o1' := own_up o1 t18 (fun z hz hm => by
    simp only [List.mem_singleton] at hm
    have := (own_lt o1 hz).1
    omega)
  rintro w19 rfl
  have td := (Tch.refl [] w18).drew
  have hX19 := hX18.tch td (by simp)
  have p19 := p18.trans td (by simp)
  have o19 := own_up o1' td (fun _ _ h => by cases h)
  generalize w18.drew = w19 at *
  have q19 := ht.trans p19 (by simp)
  have z19 := p19.size
  have z16 := t16.size
  have zz := td.size
  refine ⟨none, 0, 0, by rw [add_mk]; exact hX19.cell 2, by omega, by omega, a2, n2, c2, field w19 q19 2 _ rfl, ?_⟩
  refine app_at (base := xb + 1) keyT (own_nil _ _ _ _) (g2.tch q19 (by simp)).1 (by omega) (by omega) (by omega) fun A2 C2 w24 o2 t24 _ => ?_
  have hX24 := hX19.tch t24 (by simp [rowL])
  have p24 : Tch [] w3 w24 := p19.trans t24 (by simp [rowL])
  have o24 := own_up o19 t24 (fun _ _ h => by simp [rowL] at h)
  refine put_cell' hX24 2 (by simp) rfl fun w26 hX26 t26 s26 => ?_
  have p26 := far p24 t26
  have o1'' := own_up o24 t26 (fun z hz hm => by
    simp only [List.mem_singleton] at hm
    have := (own_lt o24 hz).1
    omega)
  have o2' := own_up o2 t26 (fun z hz hm => by
    simp only [List.mem_singleton] at hm
    have := (own_lt o2 hz).1
    omega)
  rintro w27 rfl
  have td := (Tch.refl [] w26).drew
  have hX27 := hX26.tch td (by simp)
  have p27 := p26.trans td (by simp)
  have o27 := own_up o1'' td (fun _ _ h => by cases h)
  have r27 := own_up o2' td (fun _ _ h => by cases h)
  have z24 := t24.size
  have zz2 := td.size
  generalize w26.drew = w27 at *
  have q27 := ht.trans p27 (by simp)
  refine ⟨none, 0, 0, by rw [add_mk]; exact hX27.cell 3, by omega, by omega, a3, n3, c3, field w27 q27 3 _ rfl, ?_⟩
  refine app_at (base := xb + 1) keyT (own_nil _ _ _ _) (g3.tch q27 (by simp)).1 (by omega) (by omega) (by omega) fun A3 C3 w32 o3 t32 _ => ?_
  have hX32 := hX27.tch t32 (by simp [rowL])
  have p32 : Tch [] w3 w32 := p27.trans t32 (by simp [rowL])
  have o32 := own_up o27 t32 (fun _ _ h => by simp [rowL] at h)
  have r32 := own_up r27 t32 (fun _ _ h => by simp [rowL] at h)
  refine put_cell' hX32 3 (by simp) rfl fun w34 hX34 t34 s34 => ?_
  have p34 := far p32 t34
  have up : ∀ {e sz : Nat} {v : Value} {j : Nat} {xs : List Value}, w32.ownsRow (xb + 1) e sz v j xs → w34.ownsRow (xb + 1) e sz v j xs := fun ho => own_up ho t34 (fun z hz hm => by
    simp only [List.mem_singleton] at hm
    have := (own_lt ho hz).1
    omega)
  have f1 := up o32
  have f2 := up r32
  have f3 := up o3
  refine get_all hX34 rfl ?_
  simp only [Nat.zero_add, List.nil_append] at f1 f2 f3
  have z32 := t32.size
  have z34 := p34.size
  have hT : TxV (Btw2 w3.heap.size w34.heap.size) w34 [.int .i64 y.proc, .slice A1 n1 C1, .slice A2 n2 C2, .slice A3 n3 C3] y :=
    ⟨A1, n1, C1, A2, n2, C2, A3, n3, C3, rfl, (FR.own f1 i64s_ones).mono fun z hz => ⟨by omega, hz.2⟩, (FR.own f2 kCs_ones).mono fun z hz => ⟨by omega, hz.2⟩, (FR.own f3 kCs_ones).mono fun z hz => ⟨by omega, hz.2⟩, hok⟩
  have htake : (l.take k).length ≤ 100000 := by rw [List.length_take]; omega
  simp only [Nat.zero_add]
  refine hG.push (s := []) p34 (by simp) hT (by omega) htake (by rw [zcTx']; rfl) fun a' c' w39 hG' t39 hge => ?_
  refine ⟨n - (k + 1), by omega, k + 1, by rw [wrap_i64 (by omega) (by omega)]; omega, by omega, rfl, rfl, by rw [htk]; exact hG', (ht.trans p34 (by simp)).trans t39 fun z hz => .inr (by have := hge z hz; omega)⟩
theorem handed_c {F : Nat → Prop} (w : World) (i n : Int) (a : Option Addr) (tn tc : Nat) (l : List Tx) (h : BatchV F w a tn tc l) (hs : Smalls l) :
    Calls Tryd.prog 13 #[.agg #[.int .i64 i, .int .i64 n, .slice a tn tc]] w fun e w' => ∃ a' c', e = .returned (.agg #[.int .i64 i, .int .i64 n, .slice a' tn c']) ∧ BatchV (Btw2 w.heap.size w'.heap.size) w' a' tn c' l ∧ Tch [] w w' := by
  refine c13 _ ?_
  unfold d13
  rintro w1 rfl
  have hP : Blk _ _ [Value.int .i64 i, .int .i64 n, .slice a tn tc] := Blk.fresh w (cs := [Value.int .i64 i, .int .i64 n, .slice a tn tc]) 37 rfl
  have t1 := (Tch.refl [] w).alloc (.cells #[Value.int .i64 i, .int .i64 n, .slice a tn tc] 37)
  have s1 := size_alloc w (.cells #[Value.int .i64 i, .int .i64 n, .slice a tn tc] 37)
  generalize w.alloc (.cells #[Value.int .i64 i, .int .i64 n, .slice a tn tc] 37) = w1 at *
  rintro w2 rfl
  have hZ : Blk _ _ [Value.int .i64 0, .int .i64 0, .slice none 0 0] := Blk.fresh w1 (cs := zc Tryd.prog 37) 37 zcPiece
  have t2 := (Tch.refl [] w1).alloc (.cells (zc Tryd.prog 37).toArray 37)
  have s2 := size_alloc w1 (.cells (zc Tryd.prog 37).toArray 37)
  generalize w1.alloc (.cells (zc Tryd.prog 37).toArray 37) = w2 at *
  rintro w3 rfl
  have td := (Tch.refl [] w2).drew
  have sd := td.size
  replace hP := (hP.tch t2 (by simp)).tch td (by simp)
  replace hZ := hZ.tch td (by simp)
  have t := (t1.trans t2 (by simp)).trans td (by simp)
  generalize w2.drew = w3 at *
  obtain ⟨pb, hpb⟩ : ∃ pb, w.heap.size = pb := ⟨_, rfl⟩
  obtain ⟨zb, hzb⟩ : ∃ zb, w1.heap.size = zb := ⟨_, rfl⟩
  rw [hpb] at hP s1 ⊢
  rw [hzb] at hZ s1 s2 ⊢
  refine ⟨i, by rw [add_mk]; exact hP.cell 0, n, by rw [add_mk]; exact hP.cell 1, a, tn, tc, by rw [add_mk]; exact hP.cell 2, ?_⟩
  refine (copy_c w3 a tn tc l (h.quiet t) hs).mono ?_
  rintro e w8 ⟨a', c', rfl, hb, t8⟩
  have hP8 := hP.tch t8 (by simp)
  have hZ8 := hZ.tch t8 (by simp)
  have s8 := t8.size
  have hz3 := hZ.lt
  refine ⟨_, _, _, rfl, ⟨n, by rw [add_mk]; exact hP8.cell 1, rfl, rfl⟩, ⟨i, by rw [add_mk]; exact hP8.cell 0, rfl, rfl⟩, [.int .i64 i, .int .i64 n, .slice a' tn c'], by rw [zcPiece]; rfl, ?_⟩
  refine put_all (n := 3) (new := [.int .i64 i, .int .i64 n, .slice a' tn c']) hZ8 rfl rfl (by simp [one]) fun w13 hZ13 t13 s13 => ?_
  refine get_all hZ13 rfl ⟨a', c', rfl, ?_, (t.trans t8 (by simp)).trans t13 fun z hz => .inr (by simp at hz; omega)⟩
  refine (hb.tch t13 fun z hz hF => ?_).mono fun z hz => ⟨?_, ?_⟩
  · simp only [List.mem_singleton] at hz
    have := hF.1
    omega
  · have := hz.1; omega
  · have := hz.2; omega
/-- No longer than memory. -/
def Mid (l : List Tx) : Prop := l.length ≤ 140737488355328 ∧ ∀ x ∈ l, x.args.length ≤ 140737488355328 ∧ x.reads.length ≤ 140737488355328 ∧ x.writes.length ≤ 140737488355328
theorem wide_c {F : Nat → Prop} (w : World) (a : Option Addr) (n c : Nat) (l : List Tx) (h : BatchV F w a n c l) (hM : Mid l) :
    Calls Tryd.prog 11 #[.slice a n c] w fun e w' => ∃ b : Bool, e = .returned (.bool b) ∧ Tch [] w w' ∧ (b = false → Smalls l) := by
  have hn := h.count
  have hm0 := hM.1
  refine c11 _ _ _ ?_
  unfold d11
  refine ⟨fun m x i u => ∃ q N : Nat, x = N ∧ i = q ∧ q ≤ n ∧ m = n - q ∧ n ≤ N ∧ N ≤ 1000000000000000 ∧ (∀ y ∈ l.take q, y.args.length ≤ N ∧ y.reads.length ≤ N ∧ y.writes.length ≤ N) ∧ Tch [] w u, ⟨n, 0, n, rfl, rfl, by omega, rfl, by omega, by omega, by simp, Tch.refl _ _⟩, ?_⟩
  rintro m w3 x i ⟨q, N, rfl, rfl, hq, rfl, hnN, hN, hall, ht⟩
  by_cases hgo : q < n ∧ N ≤ 100000
  rotate_left
  · refine ⟨fun _ => False, ?_, fun _ h => h.elim⟩
    have fin : ∃ b : Bool, Ending.returned (.bool (decide (100000 < (N : Int)))) = .returned (.bool b) ∧ Tch [] w w3 ∧ (b = false → Smalls l) := by
      refine ⟨_, rfl, ht, fun hd => ?_⟩
      have hd := of_decide_eq_false hd
      have hqn : ¬ q < n := fun hh => hgo ⟨hh, by omega⟩
      rw [List.take_of_length_le (by omega)] at hall
      exact ⟨by omega, fun y hy => by have := hall y hy; exact ⟨by omega, by omega, by omega⟩⟩
    by_cases h1 : q < n
    · rw [bif_pos (by omega), bif_neg (by omega)]
      exact fin
    · rw [bif_neg (by omega)]
      exact fin
  obtain ⟨hlt, hN0⟩ := hgo
  refine ⟨fun u => u = w3, by rw [bif_pos (by omega), bif_pos (by omega)], ?_⟩
  rintro w7 rfl
  rintro w8 rfl
  have q8 := ht.trans (Tch.refl [] w7).drew (by simp)
  generalize w7.drew = w8 at *
  have hi : l[q]? = some (l[q]'(by omega)) := List.getElem?_eq_getElem (by omega)
  have hym := List.getElem_mem (show q < l.length by omega)
  have htk : l.take (q + 1) = l.take q ++ [l[q]'(by omega)] := List.take_succ_eq_append_getElem (by omega)
  generalize l[q]'(by omega) = y at hi hym htk
  obtain ⟨b, o, a1, n1, c1, a2, n2, c2, a3, n3, c3, rfl, hcell, g1, g2, g3, hv⟩ := h.parts hi
  have e1 := args_count g1
  have e2 := keys_count g2
  have e3 := keys_count g3
  obtain ⟨m1, m2, m3⟩ := hM.2 y hym
  have field : ∀ (j : Nat) (v : Value), [Value.int .i64 y.proc, .slice a1 n1 c1, .slice a2 n2 c2, .slice a3 n3 c3][j]? = some v → World.cell? w8 (Addr.add (Addr.add ⟨b, o, none⟩ (q * 4)) j) = some v := fun j v hv => by
    rw [add_mk, add_mk]
    exact cells_get (hcell w8 q8) hv
  refine ⟨by omega, by omega, ?_⟩
  rw [Int.toNat_natCast]
  refine ⟨a1, n1, c1, field 1 _ rfl, by omega, by omega, a2, n2, c2, field 2 _ rfl, by omega, by omega, a3, n3, c3, field 3 _ rfl, ?_⟩
  rw [wrap_i64 (n := (n1 : Int) + n2) (by omega) (by omega), wrap_i64 (n := (n1 : Int) + n2 + n3) (by omega) (by omega), wrap_i64 (n := (N : Int) + _) (by omega) (by omega), wrap_i64 (n := (q : Int) + 1) (by omega) (by omega)]
  refine ⟨n - (q + 1), by omega, q + 1, N + (n1 + n2 + n3), by omega, by omega, by omega, rfl, by omega, by omega, fun z hz => ?_, q8⟩
  rw [htk] at hz
  rcases List.mem_append.1 hz with hz | hz
  · have := hall z hz; exact ⟨by omega, by omega, by omega⟩
  · rw [List.mem_singleton.1 hz]; exact ⟨by omega, by omega, by omega⟩
end Go.Proofs.YtjchneebdlncfaaDoor.Frm
namespace Go.Proofs.YtjchneebdlncfaaDoor.Frm
open Go Den Fn Lib
open Go.RowKit (Below)
open Classical
set_option maxRecDepth 8000
set_option maxHeartbeats 8000000
/-- A decoded piece, as it lies in a variable. -/
def pcC (D : Option (Int × Int × List Tx)) (a : Option Addr) (k c : Nat) : List Value := match D with
  | none => [.int .i64 0, .int .i64 0, .slice none 0 0]
  | some (i, n, _) => [.int .i64 i, .int .i64 n, .slice a k c]
def pcE (D : Option (Int × Int × List Tx)) : Int := match D with | none => 264 | some _ => 0
def pcL (D : Option (Int × Int × List Tx)) : List Tx := match D with | none => [] | some (_, _, l) => l
theorem pcC_len {D : Option (Int × Int × List Tx)} {a : Option Addr} {k c : Nat} : (pcC D a k c).length = 3 := by
  unfold pcC
  split <;> rfl
theorem pcC_ones {D : Option (Int × Int × List Tx)} {a : Option Addr} {k c : Nat} : ∀ u ∈ pcC D a k c, one u = true := by
  unfold pcC
  split <;> simp [one]
theorem PieceO.out {w w' : World} {D : Option (Int × Int × List Tx)} {en : Ending} (h : PieceO w D en w') : Tch [] w w' ∧ ∃ a k c, en = .returned (.tuple #[.agg (pcC D a k c).toArray, .int .i64 (pcE D)]) ∧ (D ≠ none → BatchV (Btw2 w.heap.size w'.heap.size) w' a k c (pcL D)) := by
  obtain ⟨h1, h2⟩ := h
  refine ⟨h1, ?_⟩
  match D, h2 with
  | none, h2 => exact ⟨none, 0, 0, h2, fun h => absurd rfl h⟩
  | some (i, n, l), ⟨a, k, c, h2, h3⟩ => exact ⟨a, k, c, h2, fun _ => h3⟩
/-- Two decoded pieces in variables are the same. -/
theorem samePc_c {F G : Nat → Prop} (w : World) (D : Option (Int × Int × List Tx)) (a b : Option Addr) (k c m d : Nat) (h : D ≠ none → BatchV F w a k c (pcL D)) (g : D ≠ none → BatchV G w b m d (pcL D)) (hs : Smalls (pcL D)) :
    Calls Tryd.prog 22 #[.agg (pcC D a k c).toArray, .agg (pcC D b m d).toArray] w fun e w' => e = .returned (.bool true) ∧ Tch [] w w' := by
  match D with
  | none =>
    refine (samePiece_c w 0 0 0 0 none none 0 0 0 0 [] [] (BatchV.nil (fun _ => True) w) (BatchV.nil (fun _ => True) w) ⟨by simp, by simp⟩).mono ?_
    rintro e w' ⟨rfl, ht⟩
    exact ⟨by simp, ht⟩
  | some (i, n, l) =>
    refine (samePiece_c w i n i n a b k c m d l l (h (by simp)) (g (by simp)) hs).mono ?_
    rintro e w' ⟨rfl, ht⟩
    exact ⟨by simp, ht⟩
def wtE (D : Option (List (Int × Int))) : Int := match D with | none => 264 | some _ => 0
def wtL (D : Option (List (Int × Int))) : List (Int × Int) := match D with | none => [] | some l => l
theorem WantsO.out {w w' : World} {D : Option (List (Int × Int))} {en : Ending} (h : WantsO w D en w') : Tch [] w w' ∧ ∃ a c, en = .returned (.tuple #[.slice a (wtL D).length c, .int .i64 (wtE D)]) ∧ w'.ownsRow w.heap.size 59 2 (.slice a (wtL D).length c) (wtL D).length (rows kC (wtL D)) := by
  obtain ⟨h1, h2⟩ := h
  refine ⟨h1, ?_⟩
  match D, h2 with
  | none, h2 => exact ⟨none, 0, h2, own_nil _ _ _ _⟩
  | some l, ⟨a, c, h2, h3⟩ => exact ⟨a, c, h2, h3⟩
theorem sealS_len (k : Int) (l : List Int) : (sealS k l).length ≤ 16777229 := by
  unfold sealS
  split
  · simp
  · simp only [List.length_append, headS, fourS, List.length_cons, List.length_nil]
    omega
theorem pieceE_len (i n : Int) (l : List Tx) : (pieceE i n l).1.length ≤ 16777229 := by
  unfold pieceE
  split
  · simp
  split
  · simp
  exact sealS_len _ _
theorem wantsE_len (l : List (Int × Int)) : (wantsE l).1.length ≤ 16777229 := by
  unfold wantsE
  split
  · simp
  split
  · simp
  exact sealS_len _ _
theorem own_blk {w : World} {base e size n c : Nat} {a : Option Addr} {xs : List Value} (h : w.ownsRow base e size (.slice a n c) n xs) (hn : 0 < n) : ∃ g cur, a = some ⟨g, 0, none⟩ ∧ base ≤ g ∧ Blk w g cur ∧ n * size ≤ cur.length := by
  obtain ⟨hl, ⟨h1, h2⟩ | ⟨g, cap, cur, h1, hg, hh, h3, h4, h5, h6⟩⟩ := h
  · cases h1
    omega
  · cases h1
    refine ⟨g, cur.toList, rfl, hg, ⟨_, by simpa using hh⟩, ?_⟩
    have : xs.length ≤ cur.toList.length := by rw [← h6, List.length_take]; omega
    omega
theorem frames_c {F : Nat → Prop} (w : World) (i n : Int) (ta : Option Addr) (tn tc : Nat) (l : List Tx) (h : BatchV F w ta tn tc l) (hM : Mid l) (wa : Option Addr) (wn wc : Nat) (ws : List (Int × Int)) (hw : RSl w 2 wa wn wc (rows kC ws)) (hwn : wn ≤ 8796093022208)
    (ba : Option Addr) (bn bc : Nat) (bs : List Int) (hb : RSl w 1 ba bn bc (u8 bs)) (hB : Bytes bs) (hN : bn ≤ 140737488351232) (hT : Tab w) :
    Calls Tryd.prog 4 #[.agg #[.int .i64 i, .int .i64 n, .slice ta tn tc], .slice wa wn wc, .slice ba bn bc] w fun e w' => e = .returned (.bool true) ∧ Tch [] w w' := by
  have hwl : ws.length = wn := hw.count kC_len (by omega)
  have hbl := u8_len hb
  refine c4 _ _ _ _ _ _ _ ?_
  unfold d4
  rintro w3 rfl
  have hP : Blk _ _ [Value.int .i64 i, .int .i64 n, .slice ta tn tc] := Blk.fresh w (cs := [Value.int .i64 i, .int .i64 n, .slice ta tn tc]) 37 rfl
  have q3 := (Tch.refl [] w).alloc (.cells #[Value.int .i64 i, .int .i64 n, .slice ta tn tc] 37)
  generalize w.alloc (.cells #[Value.int .i64 i, .int .i64 n, .slice ta tn tc] 37) = w3 at *
  generalize hpb : w.heap.size = pb at *
  refine ⟨ta, tn, tc, by rw [add_mk]; exact hP.cell 2, ?_⟩
  refine (wide_c w3 ta tn tc l (h.quiet q3) hM).mono ?_
  rintro e w6 ⟨x7, rfl, t6, hsm⟩
  have q6 := q3.trans t6 (by simp)
  have hP6 := hP.tch t6 (by simp)
  refine ⟨_, rfl, ?_⟩
  cases x7 with
  | true => exact ⟨rfl, q6⟩
  | false =>
  replace hsm := hsm rfl
  rw [cond_false]
  refine get_all hP6 rfl ?_
  refine (handed_c w6 i n ta tn tc l (h.quiet q6) hsm).mono ?_
  rintro e w10 ⟨ha, hc, rfl, hh, t10⟩
  have q10 := q6.trans t10 (by simp)
  refine ⟨_, rfl, ?_⟩
  refine (encPiece_c w10 i n ha tn hc l hh (hT.since q10)).mono ?_
  rintro e w13 ⟨xa, xc, rfl, hx, t13⟩
  have q13 := q10.trans t13 (by simp)
  have hP13 := (hP6.tch t10 (by simp)).tch t13 (by simp)
  refine ⟨_, _, _, _, rfl, _, _, _, rfl, _, rfl, ?_⟩
  refine get_all hP13 rfl ?_
  refine (refEncPiece_c w13 i n ta tn tc l (h.quiet q13)).mono ?_
  rintro e w20 ⟨ya, yc, rfl, hy, t20⟩
  have q20 := q13.trans t20 (by simp)
  have hx20 := own_up hx t20 (fun _ _ h => by cases h)
  refine ⟨_, _, _, _, rfl, _, _, _, rfl, _, rfl, ?_⟩
  rintro w25 rfl
  have t25 := (Tch.refl [] w20).alloc (.cells #[] 59)
  have s25 := size_alloc w20 (.cells #[] 59)
  have oE := (BlkT.new w20 #[] 59).own (base := w20.heap.size) (size := 2) (n := 0) (Nat.le_refl _) rfl (by omega)
  have q25 := q20.trans t25 (by simp)
  refine app_at wantT oE (hw.tch q25 (fun _ _ h => by cases h)) (by omega) (by omega) (by omega) fun wa' wc' w27 ho27 t27 _ => ?_
  have t2027 : Tch [] w20 w27 := t25.trans t27 fun z hz => .inr (by simp [rowL] at hz; omega)
  have q27 := q20.trans t2027 (by simp)
  rw [Nat.zero_add] at ho27 ⊢
  have hw27 : RSl w27 2 wa' wn wc' (rows kC ws) := own_rsl ho27 kCs_ones
  refine (encWants_c w27 wa' wn wc' ws hw27 (hT.since q27)).mono ?_
  rintro e w30 ⟨ua, uc, rfl, hu, t30⟩
  have q30 := q27.trans t30 (by simp)
  refine ⟨_, _, _, _, rfl, _, _, _, rfl, _, rfl, ?_⟩
  refine (refEncWants_c w30 wa wn wc ws (hw.tch q30 (fun _ _ h => by cases h))).mono ?_
  rintro e w36 ⟨va, vc, rfl, hv, t36⟩
  have q36 := q30.trans t36 (by simp)
  refine ⟨_, _, _, _, rfl, _, _, _, rfl, _, rfl, ?_⟩
  have hxr : RSl w36 1 xa _ xc (u8 (pieceE i n l).1) := ((own_rsl hx20 ones_ints).tch t2027 (fun _ _ h => by cases h)).tch (t30.trans t36 (by simp)) (fun _ _ h => by cases h)
  have hyr : RSl w36 1 ya _ yc (u8 (pieceE i n l).1) := ((own_rsl hy ones_ints).tch t2027 (fun _ _ h => by cases h)).tch (t30.trans t36 (by simp)) (fun _ _ h => by cases h)
  have hur := (own_rsl hu ones_ints).tch t36 (fun _ _ h => by cases h)
  have hvr := own_rsl hv ones_ints
  have l1 := pieceE_len i n l
  have l2 := wantsE_len ws
  refine ⟨fun u => Tch [] w36 u, ?_, ?_⟩
  · rw [bif_npos rfl]
    refine (sameBytes_c w36 _ _ xa ya _ xc _ yc hxr hyr (by omega)).mono ?_
    rintro e w43 ⟨rfl, t43⟩
    refine ⟨_, rfl, ?_⟩
    rw [bif_npos rfl, bif_npos rfl]
    refine (sameBytes_c w43 _ _ ua va _ uc _ vc (hur.tch t43 (fun _ _ h => by cases h)) (hvr.tch t43 (fun _ _ h => by cases h)) (by omega)).mono ?_
    rintro e w46 ⟨rfl, t46⟩
    refine ⟨_, rfl, ?_⟩
    rw [bif_npos rfl]
    exact t43.trans t46 (by simp)
  intro w48 t48
  have q48 := q36.trans t48 (by simp)
  clear hxr hyr hur hvr hx hx20 hy hu hv hw27 ho27 oE l1 l2 hh hP13
  rintro w49 rfl
  have t49 := (Tch.refl [] w48).alloc (.cells #[] 5)
  have s49 := size_alloc w48 (.cells #[] 5)
  have oB := (BlkT.new w48 #[] 5).own (base := w48.heap.size) (size := 1) (n := 0) (Nat.le_refl _) rfl (by omega)
  refine app_at u8T oB (hb.tch (q48.trans t49 (by simp)) (fun _ _ h => by cases h)) (by omega) (by omega) (by omega) fun fa fc w51 o51 t51 _ => ?_
  have p51 : Tch [] w48 w51 := t49.trans t51 fun z hz => .inr (by simp [rowL] at hz; omega)
  rw [Nat.zero_add] at o51 ⊢
  have o51' : w51.ownsRow w48.heap.size 5 1 (.slice fa bn fc) bn (u8 bs) := o51
  have z51 := p51.size
  refine app_elem_at (z := [.int .u8 0]) (ys := [.int .u8 7]) u8T o51' rfl rfl rfl (by simp [one]) (by omega) (by omega) (by omega) fun full fcap w56 o56 t56 _ => ?_
  have p56 : Tch [] w48 w56 := since_own p51 o51' (Nat.le_refl _) t56
  have q56 := q48.trans p56 (by simp)
  have hfull : RSl w56 1 full (bn + 1) fcap (u8 (bs ++ [7])) := by
    have := own_rsl o56 (by
      intro u hu
      rcases List.mem_append.1 hu with hu | hu
      · exact ones_ints u hu
      · rw [List.mem_singleton.1 hu]; rfl)
    simpa using this
  have hfc := hfull.cap
  have hcut := hfull.cut (l := 0) (hh := bn) (by omega) (by omega)
  simp only [Nat.sub_zero, List.drop_zero] at hcut
  have e7 : List.take bn (bs ++ [(7 : Int)]) = bs := by rw [← hbl]; simp
  rw [e7] at hcut
  simp only [Int.toNat_natCast, Nat.sub_zero]
  generalize (if fcap = 0 then full else Option.map (fun y => Addr.add y (0 * 1)) full) = FA at *
  have far : ∀ {u : World} {a : Option Addr} {m c : Nat} {xs : List Value}, RSl w56 1 a m c xs → Tch [] w56 u → RSl u 1 a m c xs := fun h t => h.tch t (fun _ _ h => by cases h)
  refine ⟨by omega, by omega, ?_⟩
  refine (decPiece_c w56 bs FA bn fcap hcut hB (by omega) (hT.since q56)).mono ?_
  intro e w59 hO
  obtain ⟨t59, qa, qk, qc, rfl, hq⟩ := (PieceO.out hO)
  clear hO
  refine ⟨_, _, rfl, _, rfl, _, rfl, ?_⟩
  refine var_init (n := 3) (by rw [zcPiece]; rfl) pcC_len pcC_ones fun w64 w65 hQ t65 s65 => ?_
  have p65 := t59.trans t65 (by simp)
  have q65 := q56.trans p65 (by simp)
  refine (refDecPiece_c w65 bs ba bn bc (hb.tch q65 (fun _ _ h => by cases h)) hB (by omega)).mono ?_
  intro e w67 hO
  obtain ⟨t67, ra, rk, rc, rfl, hr⟩ := (PieceO.out hO)
  clear hO
  refine ⟨_, _, rfl, _, rfl, _, rfl, ?_⟩
  refine var_init (n := 3) (by rw [zcPiece]; rfl) pcC_len pcC_ones fun w72 w73 hR t73 s73 => ?_
  have p73 := (p65.trans t67 (by simp)).trans t73 (by simp)
  have q73 := q56.trans p73 (by simp)
  refine ⟨by omega, by omega, ?_⟩
  refine (decWants_c w73 bs FA bn fcap (far hcut p73) hB (by omega) (hT.since q73)).mono ?_
  intro e w75 hO
  obtain ⟨t75, ma, mc, rfl, hm⟩ := (WantsO.out hO)
  clear hO
  have p75 := p73.trans t75 (by simp)
  have q75 := q73.trans t75 (by simp)
  refine ⟨_, _, _, _, rfl, _, _, _, rfl, _, rfl, by omega, by omega, ?_⟩
  refine (decWants_c w75 bs FA bn fcap (far hcut p75) hB (by omega) (hT.since q75)).mono ?_
  intro e w81 hO
  obtain ⟨t81, ga, gc, rfl, hg⟩ := (WantsO.out hO)
  clear hO
  have p81 := p75.trans t81 (by simp)
  have q81 := q75.trans t81 (by simp)
  refine ⟨_, _, _, _, rfl, _, _, _, rfl, _, rfl, ?_⟩
  refine (refDecWants_c w81 bs ba bn bc (hb.tch q81 (fun _ _ h => by cases h)) hB (by omega)).mono ?_
  intro e w87 hO
  obtain ⟨t87, na, nc, rfl, hnn⟩ := (WantsO.out hO)
  clear hO
  have p87 := p81.trans t87 (by simp)
  have q87 := q81.trans t87 (by simp)
  refine ⟨_, _, _, _, rfl, _, _, _, rfl, _, rfl, ?_⟩
  have hkI : (∀ k ∈ wtL (wantsD bs), kI k) ∧ (wtL (wantsD bs)).length ≤ 1024 := by
    cases hD : wantsD bs with
    | none => exact ⟨by intro k hk; simp [wtL] at hk, by simp [wtL]⟩
    | some l => exact wantsD_ok hB hD
  have hSm : Smalls (pcL (pieceD bs)) := by
    cases hD : pieceD bs with
    | none => exact ⟨by simp [pcL], by intro x hx; simp [pcL] at hx⟩
    | some z => obtain ⟨i', n', l'⟩ := z; exact pieceD_small hB hD
  generalize hWd : wantsD bs = WD at *
  generalize hPd : pieceD bs = PD at *
  have t7387 := (t75.trans t81 (by simp)).trans t87 (by simp)
  have t6587 := (t67.trans t73 (by simp)).trans t7387 (by simp)
  have hQ87 := hQ.tch t6587 (by simp)
  have hR87 := hR.tch t7387 (by simp)
  have hm87 := own_up hm (t81.trans t87 (by simp)) (fun _ _ h => by cases h)
  have hg87 := own_up hg t87 (fun _ _ h => by cases h)
  have t5987 := t65.trans t6587 (by simp)
  have t6787 := t73.trans t7387 (by simp)
  have hq87 : PD ≠ none → BatchV (Btw2 w56.heap.size w59.heap.size) w87 qa qk qc (pcL PD) := fun h => (hq h).quiet t5987
  have hr87 : PD ≠ none → BatchV (Btw2 w65.heap.size w67.heap.size) w87 ra rk rc (pcL PD) := fun h => (hr h).quiet t6787
  refine ⟨fun u => Tch [] w87 u, ?_, ?_⟩
  · rw [bif_npos rfl]
    refine get_all hQ87 pcC_len (get_all hR87 pcC_len ?_)
    refine (samePc_c w87 PD qa ra qk qc rk rc hq87 hr87 hSm).mono ?_
    rintro e w96 ⟨rfl, t96⟩
    refine ⟨_, rfl, ?_⟩
    rw [show (!true) = false from rfl, cond_false, bif_npos rfl]
    refine (sameWants_c w96 _ _ ma na _ mc _ nc ((own_rsl hm87 kCs_ones).tch t96 (fun _ _ h => by cases h)) ((own_rsl hnn kCs_ones).tch t96 (fun _ _ h => by cases h)) hkI.1 hkI.1 (by omega)).mono ?_
    rintro e w99 ⟨rfl, t99⟩
    refine ⟨_, rfl, ?_⟩
    rw [bif_npos rfl]
    refine ⟨by omega, by omega, ?_⟩
    have t9 := t96.trans t99 (by simp)
    refine (sameBytes_c w99 bs bs FA ba bn fcap bn bc (far hcut (p87.trans t9 (by simp))) (hb.tch (q87.trans t9 (by simp)) (fun _ _ h => by cases h)) (by omega)).mono ?_
    rintro e w102 ⟨rfl, t102⟩
    refine ⟨_, rfl, ?_⟩
    rw [bif_npos rfl]
    refine ⟨by omega, by omega, ?_⟩
    have t8 := t9.trans t102 (by simp)
    refine elem8 (far hfull (p87.trans t8 (by simp))) (i := bn) (by omega) ?_
    have e8 : List.getD (bs ++ [(7 : Int)]) bn 0 = 7 := by rw [← hbl]; simp
    rw [e8, bif_npos rfl]
    exact t8
  intro w106 t106
  have L0 := hkI.2
  have hm106 := own_up hm87 t106 (fun _ _ h => by cases h)
  have hg106 := (own_rsl hg87 kCs_ones).tch t106 (fun _ _ h => by cases h)
  have hn106 := (own_rsl hnn kCs_ones).tch t106 (fun _ _ h => by cases h)
  have gge := own_ge hg
  have nge := own_ge hnn
  have z81 := t81.size
  have mge : ∀ z ∈ rowL ma, w.heap.size ≤ z ∧ z < w75.heap.size := fun z hz => ⟨Nat.le_trans q73.size (rowL_ge hm z hz).1, (rowL_ge hm z hz).2⟩
  refine ⟨fun q x u => ∃ z : Nat, x = z ∧ z ≤ (wtL WD).length ∧ q = (wtL WD).length - z ∧ Tch (rowL ma) w106 u ∧ (∀ g cur0, ma = some ⟨g, 0, none⟩ → Blk w106 g cur0 → ∃ cur, Blk u g cur ∧ cur.length = cur0.length), ⟨(wtL WD).length, 0, rfl, by omega, rfl, Tch.refl _ _, fun g cur0 _ h => ⟨cur0, h, rfl⟩⟩, ?_⟩
  rintro q w109 x ⟨z, rfl, hz, rfl, t109, hkeep⟩
  by_cases hlt : z < (wtL WD).length
  · rw [bif_pos (by omega)]
    obtain ⟨g, cur, rfl, hge, hcur, hlen⟩ := own_blk hm106 (by omega)
    refine ⟨by omega, by omega, ?_⟩
    rw [Int.toNat_natCast]
    obtain ⟨cu, hcu, hcl⟩ := hkeep g cur rfl hcur
    show one _ = true ∧ Option.isSome (World.cell? w109 (Addr.add ⟨g, 0, none⟩ (z * 2))) = true ∧ World.frozen? w109 (Addr.add ⟨g, 0, none⟩ (z * 2)) = false ∧ ∀ w112 : World, w112 = World.setCell w109 (Addr.add ⟨g, 0, none⟩ (z * 2)) _ → _
    refine put_cell' hcu (z * 2) (by omega) rfl fun w112 h112 t112 s112 => ?_
    refine ⟨(wtL WD).length - (z + 1), by omega, z + 1, by rw [wrap_i64 (by omega) (by omega)]; omega, by omega, rfl, t109.trans t112 fun y hy => .inl hy, fun g' cur0 he h0 => ?_⟩
    cases he
    obtain ⟨cu', hcu', hcl'⟩ := hkeep g cur0 rfl h0
    obtain ⟨T1, e1⟩ := hcu
    obtain ⟨T2, e2⟩ := hcu'
    rw [e1] at e2
    simp only [Option.some.injEq, Obj.cells.injEq] at e2
    have := congrArg List.length (List.toArray_inj e2.1)
    exact ⟨_, h112, by rw [List.length_set]; omega⟩
  · rw [bif_neg (by omega)]
    have off : ∀ {a : Option Addr} {m c : Nat} {xs : List Value}, RSl w106 2 a m c xs → (∀ x, a = some x → w75.heap.size ≤ x.block) → RSl w109 2 a m c xs := fun h hx => h.tch t109 fun x hx' hm' => by have := (mge _ hm').2; have := hx x hx'; omega
    refine (sameWants_c w109 _ _ ga na _ gc _ nc (off hg106 fun x hx => (gge x hx).1) (off hn106 fun x hx => by have := (nge x hx).1; omega) hkI.1 hkI.1 (by omega)).mono ?_
    rintro e w115 ⟨rfl, t115⟩
    refine ⟨_, rfl, by simp, ?_⟩
    exact ((q87.trans t106 (by simp)).trans t109 fun z hz => .inr (mge z hz).1).trans t115 (by simp)
end Go.Proofs.YtjchneebdlncfaaDoor.Frm
namespace Go.Proofs.YtjchneebdlncfaaDoor.Den
open Go Go.ChangeShapes Go.WideShapes Go.ChangeAt Go.RowKit
variable {H : Type} {enc : TypeId × Value → H} {P : Program}
def fieldsC (P : Program) (f : TypeId → Option (List CK)) : List Field → Nat → Option (List CK)
  | [], _ => some []
  | x :: r, o =>
    match f x.type with
    | some l =>
      if x.offset = o ∧ P.cellsOf x.type = l.length then
        match fieldsC P f r (o + l.length) with
        | some l' => some (l ++ l')
        | none => none
      else none
    | none => none
theorem mapM_cons_some {α β : Type} {g : α → Option β} {x : α} {l : List α} {ys : List β} (h : (x :: l).mapM g = some ys) : ∃ y r, g x = some y ∧ l.mapM g = some r ∧ ys = y :: r := by
  rw [List.mapM_cons] at h
  cases hx : g x with
  | none => rw [hx] at h; cases h
  | some y =>
    rw [hx] at h
    cases hr : l.mapM g with
    | none => rw [hr] at h; cases h
    | some r => rw [hr] at h; cases h; exact ⟨y, r, rfl, rfl, rfl⟩
theorem mapM_all {α β : Type} {g : α → Option β} : ∀ {l : List α} {ys : List β}, l.mapM g = some ys → ys.length = l.length ∧ ∀ x ∈ l, ∃ y, g x = some y
  | [], ys, h => by
    simp at h
    subst h
    exact ⟨rfl, by simp⟩
  | x :: l, ys, h => by
    obtain ⟨y, r, h1, h2, rfl⟩ := mapM_cons_some h
    obtain ⟨h3, h4⟩ := mapM_all h2
    exact ⟨by simp [h3], fun z hz => by
      rcases List.mem_cons.1 hz with rfl | hz
      · exact ⟨y, h1⟩
      · exact h4 z hz⟩
theorem cells?_spec {w : World} {base : Nat} {a : Addr} {n : Nat} {cs : List Value} (h : w.cells? base a n = some cs) : cs.length = n ∧ ∀ i v, cs[i]? = some v → w.cell? (a.add i) = some v := by
  unfold World.cells? at h
  split at h
  · obtain ⟨h1, h2⟩ := mapM_all h
    refine ⟨by simpa using h1, fun i v hv => ?_⟩
    have key : ∀ (l : List Nat) (cs : List Value), l.mapM (fun i => w.cell? (a.add i)) = some cs → ∀ (j k : Nat) (u : Value), l[j]? = some k → cs[j]? = some u → w.cell? (a.add k) = some u := by
      intro l
      induction l with
      | nil => intro cs _ j k u hj _; simp at hj
      | cons x l ih =>
        intro cs hcs j k u hj hu
        obtain ⟨y, r, h1, h2, rfl⟩ := mapM_cons_some hcs
        cases j with
        | zero => simp at hj hu; subst hj; subst hu; exact h1
        | succ j => exact ih r h2 j k u (by simpa using hj) (by simpa using hu)
    have hi : i < n := by have := (List.getElem?_eq_some_iff.1 hv).1; simp at h1; omega
    exact key _ _ h i i v (by simp [hi]) hv
  · cases h
theorem cell_spot {w : World} {a : Addr} {v : Value} (h : w.cell? a = some v) : a.spot = none := by
  unfold World.cell? at h
  split at h
  · split at h
    · cases h
    · rename_i hs
      simpa using hs
  · cases h
theorem rows_id (rs : List (List Value)) : rows id rs = rs.flatten := by simp [rows]
end Go.Proofs.YtjchneebdlncfaaDoor.Den
namespace Go.Proofs.YtjchneebdlncfaaDoor.Den
open Go Go.ChangeShapes Go.WideShapes Go.ChangeAt Go.RowKit
variable {H : Type} {enc : TypeId × Value → H} {P : Program}
/-- As RepV, with a bound of one's own. -/
def RepB (M : Nat) (w : World) : Nat → CK → Value → Prop
  | _, .int k, v => fit (.int k) v
  | _, .bool, v => fit .bool v
  | _, .str, v => fit .str v
  | 0, .sl _, _ => False
  | d + 1, .sl e, v => ∃ (a : Option Addr) (n c : Nat) (rs : List (List Value)), v = .slice a n c ∧ rs.length = n ∧ c ≤ M ∧ RSl w e.length a n c rs.flatten ∧ (∀ r ∈ rs, RepL (RepB M w d) e r)
theorem RepB.one {M : Nat} {w : World} : ∀ {d : Nat} {k : CK} {v : Value}, RepB M w d k v → one v = true
  | 0, .int _, v, h => by cases v <;> first | rfl | exact h.elim
  | 0, .bool, v, h => by cases v <;> first | rfl | exact h.elim
  | 0, .str, v, h => by cases v <;> first | rfl | exact h.elim
  | 0, .sl _, _, h => h.elim
  | _ + 1, .int _, v, h => by cases v <;> first | rfl | exact h.elim
  | _ + 1, .bool, v, h => by cases v <;> first | rfl | exact h.elim
  | _ + 1, .str, v, h => by cases v <;> first | rfl | exact h.elim
  | d + 1, .sl e, v, h => by
    obtain ⟨a, n, c, rs, rfl, _⟩ := h
    rfl
theorem RepB.up {M : Nat} {w : World} : ∀ {d : Nat} {k : CK} {v : Value}, RepB M w d k v → RepB M w (d + 1) k v
  | 0, .int _, _, h => h
  | 0, .bool, _, h => h
  | 0, .str, _, h => h
  | 0, .sl _, _, h => h.elim
  | _ + 1, .int _, _, h => h
  | _ + 1, .bool, _, h => h
  | _ + 1, .str, _, h => h
  | d + 1, .sl e, v, h => by
    obtain ⟨a, n, c, rs, rfl, h1, h2, h3, h4⟩ := h
    exact ⟨a, n, c, rs, rfl, h1, h2, h3, fun r hr => (h4 r hr).mono fun _ _ => RepB.up⟩
theorem RepBs.ones {M : Nat} {w : World} {d : Nat} : ∀ {ks : List CK} {vs : List Value}, RepL (RepB M w d) ks vs → ∀ u ∈ vs, Den.one u = true
  | [], [], _, u, hu => by simp at hu
  | k :: ks, v :: vs, h, u, hu => by
    rcases List.mem_cons.1 hu with rfl | hu
    · exact RepB.one h.1
    · exact RepBs.ones h.2 u hu
  | [], _ :: _, h, _, _ => h.elim
  | _ :: _, [], h, _, _ => h.elim
theorem RepB.int {M : Nat} {w : World} {d : Nat} {k : IntKind} {v : Value} (h : RepB M w d (.int k) v) : ∃ n, v = .int k n ∧ (Lit.int k n).wf = true := by
  have h : fit (.int k) v := by cases d <;> exact h
  cases v <;> first | exact h.elim | skip
  obtain ⟨rfl, hw⟩ := h
  exact ⟨_, rfl, hw⟩
theorem RepB.sl {M : Nat} {w : World} {d : Nat} {e : List CK} {v : Value} (h : RepB M w d (.sl e) v) : ∃ (d' : Nat) (a : Option Addr) (n c : Nat) (rs : List (List Value)), d = d' + 1 ∧ v = .slice a n c ∧ rs.length = n ∧ c ≤ M ∧ RSl w e.length a n c rs.flatten ∧ (∀ r ∈ rs, RepL (RepB M w d') e r) := by
  cases d with
  | zero => exact h.elim
  | succ d =>
    obtain ⟨a, n, c, rs, h⟩ := h
    exact ⟨d, a, n, c, rs, rfl, h⟩
/-- The cells' kinds of a type without arrays, whose slices' elements weigh something. -/
def shB (P : Program) (kk : Nat) : Nat → TypeId → Option (List CK)
  | 0, _ => none
  | d + 1, t =>
    match P.underlying t with
    | some .bool => some [.bool]
    | some (.int k) => some [.int k]
    | some .string => some [.str]
    | some (.slice e) =>
      match shB P kk d e with
      | some l => if (P.cellsOf e = l.length ∧ 0 < l.length) ∧ (0 < kk ∧ kk ≤ P.bytesOf e) then some [.sl l] else none
      | none => none
    | some (.struct fs) =>
      match fieldsC P (shB P kk d) fs.toList 0 with
      | some l => if P.cellsOf t = l.length then some l else none
      | none => none
    | _ => none
theorem weightsAll_mem {e : TypeId} {m : Nat} : ∀ {l : List (DataW H)} {d : DataW H}, d ∈ l → m ∈ d.weights P e → m ∈ DataW.weightsAll P e l
  | x :: l, d, hd, hm => by
    unfold DataW.weightsAll
    rcases List.mem_cons.1 hd with rfl | hd
    · exact List.mem_append.2 (.inl hm)
    · exact List.mem_append.2 (.inr (weightsAll_mem hd hm))
theorem weightsEach_mem {m : Nat} : ∀ {ts : List TypeId} {l : List (DataW H)} {i : Nat} {t : TypeId} {d : DataW H}, ts[i]? = some t → l[i]? = some d → m ∈ d.weights P t → m ∈ DataW.weightsEach P ts l
  | t' :: ts, x :: l, 0, t, d, ht, hd, hm => by
    cases ht; cases hd
    unfold DataW.weightsEach
    exact List.mem_append.2 (.inl hm)
  | t' :: ts, x :: l, i + 1, t, d, ht, hd, hm => by
    unfold DataW.weightsEach
    exact List.mem_append.2 (.inr (weightsEach_mem (i := i) (by simpa using ht) (by simpa using hd) hm))
  | [], _, _, _, _, ht, _, _ => by simp at ht
  | _ :: _, [], _, _, _, _, hd, _ => by simp at hd
theorem slice_repB {M : Nat} {W : World} {d : Nat} {l : List CK} {a : Addr} {len cap : Nat} (hl : 0 < l.length) (hlc : len ≤ cap) (hcap : cap ≤ M)
    (hel : ∀ i, i < cap → ∃ cs, W.cells? 0 (a.add (i * l.length)) l.length = some cs ∧ RepL (RepB M W d) l cs) : RepB M W (d + 1) (.sl l) (.slice (some a) len cap) := by
  let g : Nat → List Value := fun i => (W.cells? 0 (a.add (i * l.length)) l.length).getD []
  have hg : ∀ i, i < cap → (g i).length = l.length ∧ (∀ j v, (g i)[j]? = some v → W.cell? ((a.add (i * l.length)).add j) = some v) ∧ RepL (RepB M W d) l (g i) := by
    intro i hi
    obtain ⟨cs, h1, h2⟩ := hel i hi
    have e : g i = cs := by show (W.cells? 0 _ _).getD [] = cs; rw [h1]; rfl
    rw [e]
    exact ⟨(cells?_spec h1).1, (cells?_spec h1).2, h2⟩
  refine ⟨some a, len, cap, (List.range len).map g, rfl, by simp, hcap, ⟨hlc, ?_, ?_, ?_⟩, ?_⟩
  · rw [← rows_id, rows_len (sz := l.length)]
    · simp
    · intro x hx
      obtain ⟨i, hi, rfl⟩ := List.mem_map.1 hx
      exact (hg i (by have := List.mem_range.1 hi; omega)).1
  · intro u hu
    obtain ⟨x, hx, hux⟩ := List.mem_flatten.1 hu
    obtain ⟨i, hi, rfl⟩ := List.mem_map.1 hx
    exact RepBs.ones (hg i (by have := List.mem_range.1 hi; omega)).2.2 u hux
  · by_cases h0 : cap = 0
    · exact .inl h0
    · right
      obtain ⟨h1, h2, h3⟩ := hg 0 (by omega)
      have hc : ∃ v, (g 0)[0]? = some v := ⟨(g 0)[0], by rw [List.getElem?_eq_getElem (by omega)]⟩
      obtain ⟨v, hv⟩ := hc
      have hs := h2 0 v hv
      have e0 : (a.add (0 * l.length)).add 0 = a := by simp [Addr.add]
      rw [e0] at hs
      have hsp := cell_spot hs
      obtain ⟨b, o, s⟩ := a
      simp only at hsp
      subst hsp
      refine ⟨b, o, rfl, ?_⟩
      rw [← rows_id]
      refine cells_rows (sz := l.length) ?_ ?_
      · intro x hx
        obtain ⟨i, hi, rfl⟩ := List.mem_map.1 hx
        exact (hg i (by have := List.mem_range.1 hi; omega)).1
      · intro i x hx j v hv
        rw [List.getElem?_map, Option.map_eq_some_iff] at hx
        obtain ⟨k, hk, rfl⟩ := hx
        have hik : i < len := by have := (List.getElem?_eq_some_iff.1 hk).1; simpa using this
        obtain rfl : k = i := by have := (List.getElem?_eq_some_iff.1 hk).2; simpa using this.symm
        have := (hg k (by omega)).2.1 j v hv
        rwa [add_mk] at this
  · intro r hr
    obtain ⟨i, hi, rfl⟩ := List.mem_map.1 hr
    exact (hg i (by have := List.mem_range.1 hi; omega)).2.2
theorem rep_fieldsB {M kk : Nat} {W : World} {d n : Nat} (IH : ∀ (t : TypeId) (ks : List CK), shB P kk d t = some ks → ∀ cs x, DataW.trod enc P W 0 (fun _ => true) true n t cs = some x → (∀ m ∈ x.1.weights P t, m ≤ kk * M) → RepL (RepB M W d) ks cs) :
    ∀ (fs : List Field) (pre cs : List Value) (ks : List CK), fieldsC P (shB P kk d) fs pre.length = some ks → cs.length = ks.length →
      (∀ f ∈ fs, ∃ y, DataW.trod enc P W 0 (fun _ => true) true n f.type (((pre ++ cs).drop f.offset).take (P.cellsOf f.type)) = some y ∧ ∀ m ∈ y.1.weights P f.type, m ≤ kk * M) → RepL (RepB M W d) ks cs
  | [], pre, cs, ks, h, hl, _ => by
    simp only [fieldsC, Option.some.injEq] at h
    subst h
    rw [List.length_eq_zero_iff.1 hl]
    exact trivial
  | f :: fs, pre, cs, ks, h, hl, hx => by
    unfold fieldsC at h
    split at h
    · rename_i l hfl
      split at h
      · rename_i hc
        obtain ⟨ho, hsz⟩ := hc
        split at h
        · rename_i l' hr
          simp only [Option.some.injEq] at h
          subst h
          rw [List.length_append] at hl
          obtain ⟨y, h1, hm⟩ := hx f (by simp)
          rw [ho, List.drop_left, hsz] at h1
          have hy := IH f.type l hfl _ _ h1 hm
          rw [← List.take_append_drop l.length cs]
          refine RepL.append hy ?_
          have e : pre ++ cs = (pre ++ cs.take l.length) ++ cs.drop l.length := by rw [List.append_assoc, List.take_append_drop]
          have hpl : (pre ++ cs.take l.length).length = pre.length + l.length := by rw [List.length_append, List.length_take]; omega
          refine rep_fieldsB IH fs (pre ++ cs.take l.length) (cs.drop l.length) l' (by rw [hpl]; exact hr) (by rw [List.length_drop]; omega) ?_
          rw [← e]
          exact fun g hg => hx g (by simp [hg])
        · cases h
      · cases h
    · cases h
/-- What is read is so, and no longer than what it weighs. -/
theorem open_repB {M kk : Nat} {W : World} : ∀ (d n : Nat) (t : TypeId) (ks : List CK), shB P kk d t = some ks → ∀ cs x, DataW.trod enc P W 0 (fun _ => true) true n t cs = some x → (∀ m ∈ x.1.weights P t, m ≤ kk * M) → RepL (RepB M W d) ks cs
  | 0, _, _, _, h => by simp [shB] at h
  | d + 1, n, t, ks, h => by
    intro cs x hx hw
    unfold shB at h
    split at h
    · rename_i hu
      cases h
      obtain ⟨b, rfl, _⟩ := DataW.trod_bool hu hx
      exact ⟨trivial, trivial⟩
    · rename_i k hu
      cases h
      obtain ⟨m, rfl, _, hw⟩ := DataW.trod_int hu hx
      exact ⟨⟨rfl, hw⟩, trivial⟩
    · rename_i hu
      cases h
      obtain ⟨s, rfl, _, hw⟩ := DataW.trod_string hu hx
      exact ⟨hw, trivial⟩
    · rename_i e hu
      split at h
      · rename_i l hl
        split at h
        · rename_i hc
          cases h
          obtain ⟨⟨hc1, hc2⟩, hby⟩ := hc
          rcases DataW.trod_slice hu hx with ⟨rfl, _⟩ | ⟨a, len, cap, elems, rest, m, rfl, rfl, hxe, _, hlc, hcap, hel, h1, h2, _⟩
          · exact ⟨⟨none, 0, 0, [], rfl, rfl, Nat.zero_le _, ⟨Nat.le_refl _, by simp, by simp, .inl rfl⟩, by simp⟩, trivial⟩
          · obtain ⟨hr1, hr2⟩ := h2 rfl
            have hwe : ∀ m ∈ (elems.length + rest.length) * P.bytesOf e :: (DataW.weightsAll P e (elems.map (·.1)) ++ DataW.weightsAll P e (rest.map (·.1))), m ≤ kk * M := by
              intro q hq
              refine hw q ?_
              rw [hxe]
              unfold DataW.weights
              rw [hu]
              simpa using hq
            have hcM : cap ≤ M := by
              have := hwe _ (List.mem_cons_self ..)
              rw [show elems.length + rest.length = cap by omega] at this
              have h3 : kk * cap ≤ kk * M := Nat.le_trans (by rw [Nat.mul_comm]; exact Nat.mul_le_mul_left _ hby.2) this
              exact Nat.le_of_mul_le_mul_left h3 hby.1
            refine ⟨slice_repB hc2 hlc hcM fun i hi => ?_, trivial⟩
            have hb : ∃ y, (W.cells? 0 (a.add (i * P.cellsOf e)) (P.cellsOf e)).bind (DataW.trod enc P W 0 (fun _ => true) true m e) = some y ∧ ∀ q ∈ y.1.weights P e, q ≤ kk * M := by
              by_cases hil : i < len
              · refine ⟨elems[i], by rw [h1 i hil, List.getElem?_eq_getElem (by omega)], fun q hq => hwe q ?_⟩
                exact List.mem_cons_of_mem _ (List.mem_append.2 (.inl (weightsAll_mem (List.mem_map.2 ⟨_, List.getElem_mem (by omega), rfl⟩) hq)))
              · have := hr2 (i - len) (by omega)
                rw [show len + (i - len) = i by omega] at this
                refine ⟨rest[i - len], by rw [this, List.getElem?_eq_getElem (by omega)], fun q hq => hwe q ?_⟩
                exact List.mem_cons_of_mem _ (List.mem_append.2 (.inr (weightsAll_mem (List.mem_map.2 ⟨_, List.getElem_mem (by omega), rfl⟩) hq)))
            obtain ⟨y, hy, hyw⟩ := hb
            rw [Option.bind_eq_some_iff] at hy
            obtain ⟨cs, g1, g2⟩ := hy
            rw [hc1] at g1
            exact ⟨cs, g1, open_repB d m e l hl cs y g2 hyw⟩
        · cases h
      · cases h
    · rename_i fs hu
      split at h
      · rename_i l hl
        split at h
        · rename_i hc
          cases h
          obtain ⟨xs, m, rfl, hxe, hlen, hxl, hi⟩ := DataW.trod_struct hu hx
          refine (rep_fieldsB (n := m) (fun t ks h cs x hx => open_repB d m t ks h cs x hx) fs.toList [] cs ks hl (by rw [hlen, hc]) fun f hf => ?_).mono fun _ _ => RepB.up
          obtain ⟨i, hif⟩ := List.getElem?_of_mem hf
          have := hi i f (by simpa using hif)
          have hlt : i < xs.length := by rw [hxl]; have := (List.getElem?_eq_some_iff.1 hif).1; simpa using this
          rw [List.getElem?_eq_getElem hlt] at this
          refine ⟨_, this, fun q hq => hw q ?_⟩
          rw [hxe]
          unfold DataW.weights
          rw [hu]
          refine weightsEach_mem (i := i) (t := f.type) (d := xs[i].1) ?_ ?_ hq
          · rw [List.getElem?_map, hif]; rfl
          · rw [List.getElem?_map, List.getElem?_eq_getElem hlt]; rfl
        · cases h
      · cases h
    · cases h
/-- An argument that is a struct. -/
theorem open_aggB {M kk d : Nat} {t : TypeId} {ks : List CK} (hs : shB P kk d t = some ks) (hk : (match P.underlying t with | some (.struct _) => true | some (.array _ _) => true | _ => false) = true) {W : World} {base : Nat} {v : Value} {x : DataW H} {ps : List MemPlace}
    (hval : Value.okWide P W .any base t v) (hd : DataW.Trod enc P W 0 (fun _ => true) true t v x ps) (hw : ∀ m ∈ x.weights P t, m ≤ kk * M) : ∃ cs : List Value, v = .agg cs.toArray ∧ RepL (RepB M W d) ks cs := by
  have hl : ∃ cs, v = .agg cs ∧ cs.size = P.cellsOf t := by
    split at hk
    · rename_i hu
      simp only [Value.okWide, hu] at hval
      obtain ⟨cs, h1, h2, _⟩ := hval
      exact ⟨cs, h1, h2⟩
    · rename_i hu
      simp only [Value.okWide, hu] at hval
      obtain ⟨cs, h1, h2, _⟩ := hval
      exact ⟨cs, h1, h2⟩
    · cases hk
  obtain ⟨cs, rfl, _⟩ := hl
  obtain ⟨n, hn⟩ := hd
  exact ⟨cs.toList, by simp, open_repB d n t ks hs _ _ (by simpa [Value.cells] using hn) hw⟩
/-- An argument that is a slice. -/
theorem open_slB {M kk : Nat} {t e : TypeId} {k : List CK} (ht : P.underlying t = some (.slice e)) (hs : shB P kk 6 t = some [.sl k]) {W : World} {base : Nat} {v : Value} {x : DataW H} {ps : List MemPlace} (hval : Value.okWide P W .any base t v) (hd : DataW.Trod enc P W 0 (fun _ => true) true t v x ps) (hw : ∀ m ∈ x.weights P t, m ≤ kk * M) : RepB M W 6 (.sl k) v := by
  obtain ⟨a, n, c, rfl⟩ := okWide_slice ht hval
  obtain ⟨m, hm⟩ := hd
  exact (open_repB 6 m t _ hs [.slice a n c] _ (by simpa [Value.cells] using hm) hw).1
end Go.Proofs.YtjchneebdlncfaaDoor.Den
namespace Go.Proofs.YtjchneebdlncfaaDoor.Frm
open Go Den Fn Lib
open Go.ChangeShapes Go.WideShapes Go.ChangeAt Go.RowKit
abbrev txK : List CK := [.int .i64, .sl [.int .i64], .sl [.int .i64, .int .i64], .sl [.int .i64, .int .i64]]
theorem pieceShape : shB Tryd.prog 1 6 37 = some [.int .i64, .int .i64, .sl txK] := by kernel_rfl
theorem pieceAgg : (match Tryd.prog.underlying 37 with | some (.struct _) => true | some (.array _ _) => true | _ => false) = true := by kernel_rfl
theorem wantsShape : shB Tryd.prog 16 6 38 = some [.sl [.int .i64, .int .i64]] := by kernel_rfl
theorem uWants : Tryd.prog.underlying 38 = some (.slice 59) := by kernel_rfl
theorem list_pick {α β : Type} {P : α → β → Prop} : ∀ {rs : List α}, (∀ r ∈ rs, ∃ x, P r x) → ∃ l : List β, l.length = rs.length ∧ ∀ (i : Nat) (r : α) (x : β), rs[i]? = some r → l[i]? = some x → P r x
  | [], _ => ⟨[], rfl, by simp⟩
  | r :: rs, h => by
    obtain ⟨x, hx⟩ := h r (by simp)
    obtain ⟨l, h1, h2⟩ := list_pick fun y hy => h y (List.mem_cons_of_mem _ hy)
    refine ⟨x :: l, by simp [h1], fun i r' x' hr hx' => ?_⟩
    cases i with
    | zero => simp at hr hx'; subst hr; subst hx'; exact hx
    | succ i => exact h2 i r' x' (by simpa using hr) (by simpa using hx')
variable {M : Nat} {W : World} {d : Nat} {v : Value}
theorem i64_of {n : Int} (h : (Lit.int .i64 n).wf = true) : I64 n := i64_wf.1 h
theorem ints_rowsB : ∀ {rs : List (List Value)}, (∀ r ∈ rs, RepL (RepB M W d) [.int .i64] r) → ∃ l : List Int, l.length = rs.length ∧ rs.flatten = i64s l ∧ ∀ x ∈ l, I64 x
  | [], _ => ⟨[], rfl, rfl, by simp⟩
  | r :: rs, h => by
    obtain ⟨l, h0, h1, h2⟩ := ints_rowsB fun x hx => h x (List.mem_cons_of_mem _ hx)
    obtain ⟨v, vs, rfl, g1, g2⟩ := (h r (by simp)).cons
    obtain rfl := g2.nil
    obtain ⟨n, rfl, hn⟩ := g1.int
    refine ⟨n :: l, by simp [h0], by rw [List.flatten_cons, h1]; rfl, fun x hx => ?_⟩
    rcases List.mem_cons.1 hx with rfl | hx
    · exact i64_of hn
    · exact h2 x hx
theorem keys_rowsB : ∀ {rs : List (List Value)}, (∀ r ∈ rs, RepL (RepB M W d) [.int .i64, .int .i64] r) → ∃ l : List (Int × Int), l.length = rs.length ∧ rs.flatten = rows kC l ∧ ∀ x ∈ l, kI x
  | [], _ => ⟨[], rfl, rfl, by simp⟩
  | r :: rs, h => by
    obtain ⟨l, h0, h1, h2⟩ := keys_rowsB fun x hx => h x (List.mem_cons_of_mem _ hx)
    obtain ⟨v, vs, rfl, g1, g2⟩ := (h r (by simp)).cons
    obtain ⟨u, us, rfl, k1, k2⟩ := g2.cons
    obtain rfl := k2.nil
    obtain ⟨n, rfl, hn⟩ := g1.int
    obtain ⟨m, rfl, hm⟩ := k1.int
    refine ⟨(n, m) :: l, by simp [h0], by rw [List.flatten_cons, h1, rows_cons], fun x hx => ?_⟩
    rcases List.mem_cons.1 hx with rfl | hx
    · exact ⟨i64_of hn, i64_of hm⟩
    · exact h2 x hx
theorem ints_openB (h : RepB M W d (.sl [.int .i64]) v) : ∃ (a : Option Addr) (n c : Nat) (l : List Int), v = .slice a n c ∧ RSl W 1 a n c (i64s l) ∧ l.length ≤ M ∧ ∀ x ∈ l, I64 x := by
  obtain ⟨d', a, n, c, rs, rfl, rfl, hn, hc, hr, hrs⟩ := h.sl
  obtain ⟨l, h0, h1, h2⟩ := ints_rowsB hrs
  rw [h1] at hr
  have := hr.cap
  exact ⟨a, n, c, l, rfl, hr, by omega, h2⟩
theorem keys_openB (h : RepB M W d (.sl [.int .i64, .int .i64]) v) : ∃ (a : Option Addr) (n c : Nat) (l : List (Int × Int)), v = .slice a n c ∧ RSl W 2 a n c (rows kC l) ∧ l.length ≤ M ∧ n ≤ M ∧ ∀ x ∈ l, kI x := by
  obtain ⟨d', a, n, c, rs, rfl, rfl, hn, hc, hr, hrs⟩ := h.sl
  obtain ⟨l, h0, h1, h2⟩ := keys_rowsB hrs
  rw [h1] at hr
  have := hr.cap
  exact ⟨a, n, c, l, rfl, hr, by omega, by omega, h2⟩
theorem tx_openB {r : List Value} (h : RepL (RepB M W d) txK r) : ∃ x : Tx, TxV (fun _ => True) W r x ∧ x.args.length ≤ M ∧ x.reads.length ≤ M ∧ x.writes.length ≤ M := by
  obtain ⟨v1, r, rfl, h1, h⟩ := h.cons
  obtain ⟨v2, r, rfl, h2, h⟩ := h.cons
  obtain ⟨v3, r, rfl, h3, h⟩ := h.cons
  obtain ⟨v4, r, rfl, h4, h⟩ := h.cons
  obtain rfl := h.nil
  obtain ⟨p, rfl, hp⟩ := h1.int
  obtain ⟨a1, n1, c1, l1, rfl, g1, b1, k1⟩ := ints_openB h2
  obtain ⟨a2, n2, c2, l2, rfl, g2, b2, _, k2⟩ := keys_openB h3
  obtain ⟨a3, n3, c3, l3, rfl, g3, b3, _, k3⟩ := keys_openB h4
  exact ⟨⟨p, l1, l2, l3⟩, ⟨a1, n1, c1, a2, n2, c2, a3, n3, c3, rfl, ⟨g1, .inr fun _ _ => trivial⟩, ⟨g2, .inr fun _ _ => trivial⟩, ⟨g3, .inr fun _ _ => trivial⟩, ⟨i64_of hp, k1, k2, k3⟩⟩, b1, b2, b3⟩
theorem batch_openB (h : RepB M W d (.sl txK) v) (hM : M ≤ 140737488355328) : ∃ (a : Option Addr) (n c : Nat) (l : List Tx), v = .slice a n c ∧ BatchV (fun _ => True) W a n c l ∧ Mid l := by
  obtain ⟨d', a, n, c, rs, rfl, rfl, hn, hc, hr, hrs⟩ := h.sl
  obtain ⟨l, h1, h2⟩ := list_pick fun r hr => tx_openB (hrs r hr)
  have hcap := hr.cap
  refine ⟨a, n, c, l, rfl, ⟨rs, h1.symm, ⟨hr, .inr fun _ _ => trivial⟩, fun i r x hr hx => (h2 i r x hr hx).1⟩, by omega, fun x hx => ?_⟩
  obtain ⟨i, hi⟩ := List.getElem?_of_mem hx
  have hlt := (List.getElem?_eq_some_iff.1 hi).1
  have := (h2 i (rs[i]'(by omega)) x (List.getElem?_eq_getElem (by omega)) hi).2
  exact ⟨by omega, by omega, by omega⟩
theorem piece_openB {cs : List Value} (h : RepL (RepB M W d) [.int .i64, .int .i64, .sl txK] cs) (hM : M ≤ 140737488355328) : ∃ (i n : Int) (a : Option Addr) (tn c : Nat) (l : List Tx), cs = [.int .i64 i, .int .i64 n, .slice a tn c] ∧ BatchV (fun _ => True) W a tn c l ∧ Mid l ∧ I64 i ∧ I64 n := by
  obtain ⟨v1, r, rfl, h1, h⟩ := h.cons
  obtain ⟨v2, r, rfl, h2, h⟩ := h.cons
  obtain ⟨v3, r, rfl, h3, h⟩ := h.cons
  obtain rfl := h.nil
  obtain ⟨i, rfl, hi⟩ := h1.int
  obtain ⟨n, rfl, hn⟩ := h2.int
  obtain ⟨a, tn, c, l, rfl, hb, hm⟩ := batch_openB h3 hM
  exact ⟨i, n, a, tn, c, l, rfl, hb, hm, i64_of hi, i64_of hn⟩
end Go.Proofs.YtjchneebdlncfaaDoor.Frm
namespace Go.Proofs.YtjchneebdlncfaaDoor.FrmCard
open Go Den Fn Lib Frm
open Go.ChangeShapes Go.WideShapes Go.ChangeAt Go.RowKit
theorem bytesShape : shB Tryd.prog 1 6 22 = some [.sl [.int .u8]] := by kernel_rfl
theorem params : Tryd.f4.params = #[37, 38, 22] := by kernel_rfl
set_option maxRecDepth 100000 in
theorem contract (H : Type) (enc : TypeId × Value → H) (W : World) (base : Nat) (args : Array Value) (ds gs : List (DataW H)) (before : List MemPlace)
    (hval : ∀ (j : Nat) t v, Tryd.f4.params[j]? = some t → args[j]? = some v → Value.okWide Tryd.prog W .any base t v)
    (hW : DataW.Whole enc Tryd.prog Tryd.f4.params.toList Rows.mergeFramesSpec.vars false W args.toList ds gs before)
    (hw : (DataW.weightsEach Tryd.prog (Tryd.f4.params.toList ++ []) (ds ++ gs)).all (· ≤ reachBytes) = true)
    (hL : laidMetH Tryd.prog Rows.mergeFramesRow.laid W) :
    Calls Tryd.prog 4 args W fun e W' => ∃ v, e = .returned v ∧ Rows.mergeFramesSpec.post enc Tryd.prog Tryd.f4 false true false false W args v W' := by
  have hW' := hW
  obtain ⟨p, q, hA0, hV, rfl, hfz, hnd⟩ := hW
  have hA : DataW.TrodAll enc Tryd.prog W 0 (fun _ => true) true Tryd.f4.params.toList args.toList ds p := hA0
  rw [params] at hA hval hw
  obtain ⟨v0, vs0, d0, ds0, p0, q0, hargs, rfl, rfl, h0, r0⟩ := trodAll_cons hA
  obtain ⟨v1, vs1, d1, ds1, p1, q1, rfl, rfl, rfl, h1, r1⟩ := trodAll_cons r0
  obtain ⟨v2, vs2, d2, ds2, p2, q2, rfl, rfl, rfl, h2, r2⟩ := trodAll_cons r1
  obtain ⟨rfl, rfl, rfl⟩ := trodAll_nil r2
  obtain rfl : args = #[v0, v1, v2] := by cases args; simp_all
  obtain ⟨rfl, rfl⟩ := trodVars_none hV
  have hwm : ∀ m ∈ DataW.weightsEach Tryd.prog (#[37, 38, 22].toList ++ []) ([d0, d1, d2] ++ []), m ≤ 140737488351232 := fun m hm => by
    have := List.all_eq_true.1 hw m hm
    have h : m ≤ reachBytes := by simpa using this
    exact Nat.le_trans h (by unfold reachBytes; decide)
  obtain ⟨cs, rfl, hF⟩ := open_aggB (M := 140737488351232) (kk := 1) (d := 6) pieceShape pieceAgg (hval 0 37 v0 rfl rfl) h0 fun m hm => by have := hwm m (weightsEach_mem (i := 0) rfl rfl hm); omega
  obtain ⟨i, n, ta, tn, tc, l, rfl, hb, hmid, _, _⟩ := piece_openB hF (by omega)
  obtain ⟨wa, wn, wc, ws, rfl, hws, _, hwn, _⟩ := keys_openB (open_slB (M := 8796093022208) (kk := 16) uWants wantsShape (hval 1 38 v1 rfl rfl) h1 fun m hm => by have := hwm m (weightsEach_mem (i := 1) rfl rfl hm); omega)
  have hBy := open_slB (M := 140737488351232) (kk := 1) uBytes bytesShape (hval 2 22 v2 rfl rfl) h2 fun m hm => by have := hwm m (weightsEach_mem (i := 2) rfl rfl hm); omega
  obtain ⟨a, bn, c, bs, rfl, hr, hB, hlen, hd⟩ := open_bytes uBytes uByte cByte (hval 2 22 v2 rfl rfl) h2
  have hN : bn ≤ 140737488351232 := by
    obtain ⟨_, a', n', c', rs, _, he, _, hc', _⟩ := hBy.sl
    cases he
    have := hr.cap
    omega
  refine (frames_c W i n ta tn tc l hb hmid wa wn wc ws hws hwn a bn c bs hr hB hN (laidTab hL)).mono fun e W' ⟨he, ht⟩ => ?_
  subst he
  exact ⟨_, rfl, post_true laidOk (by rw [params]; intro t ht; simp at ht; rcases ht with rfl | rfl | rfl <;> exact ⟨by kernel_rfl, of_decide_eq_true (by kernel_rfl)⟩) uBool (by kernel_rfl) hW' rfl ⟨rfl, rfl, rfl⟩ ht.below⟩

noncomputable abbrev arg : Value := .agg [Value.int .i64 0, .int .i64 0, .slice none 0 0].toArray
def zeroD {H : Type} : DataW H := .agg [.lit (.int .i64 0), .lit (.int .i64 0), .nil]
theorem laid_met (os : Os) : laidMet Tryd.prog Rows.mergeFramesRow.laid ((laidWorld os).forCall (fun _ _ => 0) ⟨#[], #[arg, .slice none 0 0, .slice none 0 0], []⟩).memory :=
  laidMet_of_run' 8 (by kernel_rfl) (by kernel_rfl)
theorem reads (os : Os) {H : Type} (enc : TypeId × Value → H) : ∃ places, DataW.whole enc Tryd.prog ((laidWorld os).forCall (fun _ _ => 0) ⟨#[], #[arg, .slice none 0 0, .slice none 0 0], []⟩).memory Tryd.f4.params.toList Rows.mergeFramesSpec.vars false #[arg, .slice none 0 0, .slice none 0 0].toList 8 = some ([zeroD, .nil, .nil], [], places) :=
  ⟨[], by kernel_rfl⟩

set_option maxRecDepth 100000 in
theorem lifted (os : Os) (started : os.Started) (H : Type) (enc : TypeId × Value → H) (F : Stop.Interp) :
    ReturnsInHanded {} Tryd.checked os 4 .any ((OpenSpec.ofChange Rows.mergeFramesSpec).preRow enc Tryd.prog Tryd.f4 Rows.mergeFramesRow.domain false Rows.mergeFramesRow.laid) (((OpenSpec.ofChange Rows.mergeFramesSpec).at F).post enc Tryd.prog Tryd.f4 false true false false) := by
  obtain ⟨places, hx⟩ := reads os enc
  refine returnsInHanded_of_row (C := Tryd.checked) (s := OpenSpec.ofChange Rows.mergeFramesSpec) own started (by kernel_rfl) Tryd.func4
    (witness_row_at (enc := enc) (C := Tryd.checked) false (laidWorld os) #[arg, .slice none 0 0, .slice none 0 0] rfl (by kernel_rfl) (by kernel_rfl) (by kernel_rfl)
      (OpenSpec.preRow_of_cond 8 hx (by kernel_rfl) (fun k hk => by cases hk) (by kernel_rfl) (laid_met os))) ?_
  intro W base args ds gs before hval hW _ _ hw hL _ _
  exact contract H enc W base args ds gs before hval hW hw hL

theorem said : Rows.MergeFramesSaid :=
  OpenClaim.holds_of_cond 4 Tryd.f4 rfl rfl rfl rfl rfl rfl rfl ⟨rfl, rfl, rfl, rfl, rfl⟩ rfl rfl rfl rfl rfl (by kernel_rfl) Tryd.func4 (by kernel_rfl)
    (of_decide_eq_true (by kernel_rfl)) (by unfold Func.isWrapper; first | (rw [if_pos (by decide +kernel)]; kernel_rfl) | (rw [if_neg (by decide +kernel)]; exact ⟨rfl, rfl⟩))
    (fun os started H enc _ F => by rw [OpenClaim.pre_eq_preRow]; exact lifted os started H enc F)

theorem plain (f : FuncId) (fn : Func) (hf : Tryd.pinned.checked.prog.funcNamed "prelude/preludelaw25.MergeFrames" = some f) (hfn : Tryd.pinned.checked.prog.funcs[f]? = some fn) :
    true = Tryd.pinned.checked.prog.looks [] ∧ ∀ (j : Nat) t, fn.params[j]? = some t → Tryd.pinned.checked.prog.wantsStandIn t = false := by
  obtain rfl : f = 4 := Option.some.inj ((show Tryd.prog.funcNamed "prelude/preludelaw25.MergeFrames" = some 4 by kernel_rfl).symm.trans hf) |>.symm
  obtain rfl : fn = Tryd.f4 := (Option.some.inj (Tryd.func4.symm.trans hfn)).symm
  refine ⟨by kernel_rfl, fun j t ht => ?_⟩
  rw [params] at ht
  have hm := Array.mem_of_getElem? ht
  simp at hm
  rcases hm with rfl | rfl | rfl
  · exact (show Tryd.prog.wantsStandIn 37 = false by kernel_rfl)
  · exact (show Tryd.prog.wantsStandIn 38 = false by kernel_rfl)
  · exact (show Tryd.prog.wantsStandIn 22 = false by kernel_rfl)

/-- The card of MergeFrames. -/
theorem card : Rows.MergeFramesCardSaid :=
  Claim7.holds_tied_plain_at .later [] _ _ _ _ said (fun _ h => by cases h) (by kernel_rfl) (fun _ h => by cases h) mergeFrames_row_tie rfl ⟨rfl, rfl⟩ (by kernel_rfl) rfl plain (by kernel_rfl)
end Go.Proofs.YtjchneebdlncfaaDoor.FrmCard
