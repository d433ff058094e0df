/-
  BATCHES AS BYTES: contracts of formed, first, Encode.
  A READER OF BYTES: contracts of Read, uint, Uint, Upto, Byte, Int, Raw, Fail, Err, End, At, Left.
  SEALED RECORDS: contracts of Seal and of the document's.
  THE CODE of some functions of the given program, resolved, and proved to ask what the readable texts (d..) say; contracts c.. follow. Printed by a small program of mine.
  Own work. No macro, syntax, notation, axiom.
-/
import Derived.Test.YtjchneebdlncfaaDoorFormPk5
import Derived.Test.YtjchneebdlncfaaDoorFormPk6
import Derived.Test.YtjchneebdlncfaaDoorFormPk4
import Derived.Test.YtjchneebdlncfaaDoorFormPk3
import Derived.Test.YtjchneebdlncfaaDoorProg
namespace Go.Proofs.YtjchneebdlncfaaDoor.Lib
open Go Den Fn
open Go.RowKit (Below)
open Classical
set_option maxRecDepth 8000
set_option maxHeartbeats 1000000
theorem zcTx : zc Tryd.prog 76 = [.int .i64 0, .slice none 0 0, .slice none 0 0, .slice none 0 0] := by kernel_rfl
theorem txT : slT Tryd.prog 35 76 4 80 = true := by kernel_rfl
/-- What is asked of bytes and an error. -/
def BytesR (w : World) (u : List Int × Int) (e : Ending) (w' : World) : Prop :=
  ∃ a c, e = .returned (.tuple #[.slice a u.1.length c, .int .i64 u.2]) ∧ w'.ownsRow w.heap.size 5 1 (.slice a u.1.length c) u.1.length (u8 u.1) ∧ Tch [] w w'
theorem keys_count {F : Nat → Prop} {w : World} {a : Option Addr} {n c : Nat} {l : List (Int × Int)} (h : FR F w 2 a n c (rows kC l)) : l.length = n := h.1.count kC_len (by omega)
theorem args_count {F : Nat → Prop} {w : World} {a : Option Addr} {n c : Nat} {l : List Int} (h : FR F w 1 a n c (i64s l)) : l.length = n := by
  have := h.1.len
  simp at this
  omega
theorem formed_c {F : Nat → Prop} (w : World) (v : List Value) (x : Tx) (h : TxV F w v x) : Calls Tryd.prog 66 #[.agg v.toArray] w fun e w' => e = .returned (.int .i64 (formedS x)) ∧ Tch [] w w' := by
  obtain ⟨a1, n1, c1, a2, n2, c2, a3, n3, c3, rfl, h1, h2, h3, hok⟩ := h
  have e1 := args_count h1
  have e2 := keys_count h2
  have e3 := keys_count h3
  refine c66 _ ?_
  unfold d66
  rintro w1 rfl
  have hS := (St.refl w []).new [.int .i64 x.proc, .slice a1 n1 c1, .slice a2 n2 c2, .slice a3 n3 c3] 76 rfl
  generalize w.alloc (.cells [Value.int .i64 x.proc, .slice a1 n1 c1, .slice a2 n2 c2, .slice a3 n3 c3].toArray 76) = w1 at *
  generalize w.heap.size = pb at *
  have hX := hS.blk (List.mem_singleton.2 rfl)
  unfold formedS
  refine ⟨fun t u => t = decide (x.proc < 0 ∨ 64 ≤ x.proc) ∧ u = w1, ?_, ?_⟩
  · refine ⟨x.proc, by rw [add_mk]; exact hX.cell 0, ?_⟩
    by_cases hp : x.proc < 0
    · rw [bif_pos hp]
      exact ⟨by rw [decide_eq_true (.inl hp)], rfl⟩
    · rw [bif_neg hp]
      refine ⟨x.proc, by rw [add_mk]; exact hX.cell 0, ?_, rfl⟩
      rw [decide_eq_decide]
      omega
  rintro w5 t ⟨rfl, rfl⟩
  by_cases hp : x.proc < 0 ∨ 64 ≤ x.proc
  · rw [bif_pos hp, if_pos hp]
    exact ⟨rfl, hS.tch⟩
  rw [bif_neg hp, if_neg hp]
  refine ⟨a1, n1, c1, by rw [add_mk]; exact hX.cell 1, ?_⟩
  by_cases g1 : 16 < n1
  · rw [bif_pos (by omega), if_pos (show 16 < x.args.length by omega)]
    exact ⟨rfl, hS.tch⟩
  rw [bif_neg (by omega), if_neg (show ¬ 16 < x.args.length by omega)]
  refine ⟨a2, n2, c2, by rw [add_mk]; exact hX.cell 2, ?_⟩
  by_cases g2 : 16 < n2
  · rw [bif_pos (by omega), if_pos (show 16 < x.reads.length by omega)]
    exact ⟨rfl, hS.tch⟩
  rw [bif_neg (by omega), if_neg (show ¬ 16 < x.reads.length by omega)]
  refine ⟨a3, n3, c3, by rw [add_mk]; exact hX.cell 3, ?_⟩
  by_cases g3 : 16 < n3
  · rw [bif_pos (by omega), if_pos (show 16 < x.writes.length by omega)]
    exact ⟨rfl, hS.tch⟩
  rw [bif_neg (by omega), if_neg (show ¬ 16 < x.writes.length by omega)]
  refine ⟨a2, n2, c2, by rw [add_mk]; exact hX.cell 2, ?_⟩
  refine (rises_c w5 x.reads a2 n2 c2 (h2.tch hS.tch (by simp)).1 hok.reads (by omega)).mono ?_
  rintro e w12 ⟨rfl, ht⟩
  refine ⟨_, rfl, ?_⟩
  replace hS := hS.quiet ht
  by_cases r1 : RisesS x.reads
  rotate_left
  · rw [bif_nneg r1, if_pos (.inl r1)]
    exact ⟨rfl, hS.tch⟩
  rw [bif_npos r1]
  refine ⟨a3, n3, c3, by rw [add_mk]; exact (hS.blk (List.mem_singleton.2 rfl)).cell 3, ?_⟩
  refine (rises_c w12 x.writes a3 n3 c3 (h3.tch hS.tch (by simp)).1 hok.writes (by omega)).mono ?_
  rintro e w16 ⟨rfl, ht⟩
  refine ⟨_, rfl, ?_⟩
  replace hS := hS.quiet ht
  by_cases r2 : RisesS x.writes
  · rw [bif_npos r2, if_neg (fun h => by rcases h with h | h; exact h r1; exact h r2)]
    exact ⟨rfl, hS.tch⟩
  · rw [bif_nneg r2, if_pos (.inr r2)]
    exact ⟨rfl, hS.tch⟩
theorem body57 : HasBody Tryd.prog 66 := ⟨_, Tryd.func66, by kernel_rfl, by kernel_rfl⟩
theorem first_c {F : Nat → Prop} (w : World) (a : Option Addr) (n c : Nat) (l : List Tx) (h : BatchV F w a n c l) :
    Calls Tryd.prog 65 #[.slice a n c, .func (.func 66) #[] #[]] w fun e w' => e = .returned (.tuple #[.int .i64 (firstS l).1, .int .i64 (firstS l).2]) ∧ Tch [] w w' := by
  have hn := h.count
  refine c65 _ _ _ _ ?_
  unfold d65 firstS
  by_cases h64 : 64 < n
  · rw [bif_pos (by omega), if_pos (by omega)]
    exact ⟨rfl, Tch.refl _ _⟩
  rw [bif_neg (by omega), if_neg (by omega)]
  refine ⟨fun m i u => ∃ k : Nat, i = k ∧ k ≤ n ∧ m = n - k ∧ firstG l 0 = firstG (l.drop k) k ∧ Tch [] w u, ⟨n, 0, rfl, by omega, rfl, by simp, Tch.refl _ _⟩, ?_⟩
  rintro m w4 i ⟨k, rfl, hk, rfl, hf, ht⟩
  by_cases hlt : k < n
  · rw [bif_pos (by omega)]
    refine ⟨by omega, by omega, ?_⟩
    rw [Int.toNat_natCast]
    have hlk : l[k]? = some (l[k]'(by omega)) := List.getElem?_eq_getElem (by omega)
    have hd : l.drop k = l[k]'(by omega) :: l.drop (k + 1) := List.drop_eq_getElem_cons (by omega)
    generalize l[k]'(by omega) = x at hlk hd
    rw [hd] at hf
    refine (h.quiet ht).elem hlk fun v hv => ?_
    refine var_init (n := 4) (by rw [zcTx]; rfl) hv.len hv.ones fun w8 w9 h1 h2 _ => ?_
    refine get_all h1 hv.len ?_
    refine ⟨body57, ?_⟩
    rw [show (#[] ++ #[Value.agg v.toArray] ++ #[] : Array Value) = #[.agg v.toArray] by simp]
    refine (formed_c w9 v x (hv.quiet h2)).mono ?_
    rintro e w15 ⟨rfl, ht15⟩
    refine ⟨_, rfl, ?_⟩
    replace ht := (ht.trans h2 (by simp)).trans ht15 (by simp)
    rw [show firstG (x :: l.drop (k + 1)) k = if formedS x ≠ 0 then ((k : Int), formedS x) else firstG (l.drop (k + 1)) (k + 1) from rfl] at hf
    by_cases h0 : formedS x = 0
    · rw [bif_npos h0]
      rw [if_neg (by simpa using h0)] at hf
      exact ⟨n - (k + 1), by omega, k + 1, by rw [wrap_i64 (by omega) (by omega)]; omega, by omega, rfl, hf, ht⟩
    · rw [bif_nneg h0]
      rw [if_pos h0] at hf
      rw [hf]
      exact ⟨rfl, ht⟩
  · rw [bif_neg (by omega)]
    rw [List.drop_of_length_le (by omega)] at hf
    rw [hf]
    exact ⟨rfl, ht⟩
/-- A writer at work: since w, at b, beside a block of its caller's own. -/
def WX (w u : World) (b : Nat) (bs : List Int) (xb : Nat) (cs : List Value) : Prop := Tch [] w u ∧ w.heap.size ≤ b ∧ b < xb ∧ ∃ a, Wr u b a bs ∧ xb ∉ b :: rowL a ∧ Blk u xb cs
def WO (w u : World) (b : Nat) (bs : List Int) : Prop := Tch [] w u ∧ w.heap.size ≤ b ∧ ∃ a, Wr u b a bs
theorem since_wr {w u u' : World} {b : Nat} {a : Option Addr} {bs bs' : List Int} (h : Tch [] w u) (hb : w.heap.size ≤ b) (hw : Wr u b a bs) (hr : WrR u u' b a bs') : Tch [] w u' :=
  h.trans hr.1 fun i hi => .inr (by
    rcases List.mem_cons.1 hi with rfl | hi
    · exact hb
    · have := hw.row i hi; omega)
theorem WO.step {w u u' : World} {b : Nat} {a : Option Addr} {bs bs' : List Int} (h : Tch [] w u) (hb : w.heap.size ≤ b) (hw : Wr u b a bs) (hr : WrR u u' b a bs') : WO w u' b bs' :=
  ⟨since_wr h hb hw hr, hb, hr.2.elim fun a' h => ⟨a', h.1⟩⟩
theorem WX.out {w u : World} {b xb : Nat} {bs : List Int} {cs : List Value} (h : WX w u b bs xb cs) : WO w u b bs := ⟨h.1, h.2.1, h.2.2.2.elim fun a h => ⟨a, h.1⟩⟩
theorem WX.step {w u u' : World} {b xb : Nat} {a : Option Addr} {bs bs' : List Int} {cs : List Value} (h : Tch [] w u) (hb : w.heap.size ≤ b) (hbx : b < xb) (hw : Wr u b a bs) (ho : xb ∉ b :: rowL a) (hx : Blk u xb cs) (hr : WrR u u' b a bs') : WX w u' b bs' xb cs := by
  refine ⟨since_wr h hb hw hr, hb, hbx, ?_⟩
  obtain ⟨ht, a', hw', hm⟩ := hr
  refine ⟨a', hw', fun hmem => ?_, hx.tch ht ho⟩
  rcases List.mem_cons.1 hmem with hm' | hm'
  · exact ho (by rw [hm']; simp)
  · rw [mem_rowL] at hm'
    obtain ⟨y, hy, rfl⟩ := hm'
    rcases hm y hy with hk | hk
    · exact ho (List.mem_cons_of_mem _ hk)
    · have := hx.lt; omega
theorem WX.quiet {w u u' : World} {b xb : Nat} {bs : List Int} {cs : List Value} (h : WX w u b bs xb cs) (ht : Tch [] u u') : WX w u' b bs xb cs := by
  obtain ⟨h1, h2, h3, a, h4, h5, h6⟩ := h
  exact ⟨h1.trans ht (by simp), h2, h3, a, h4.quiet ht, h5, h6.tch ht (by simp)⟩
theorem wx_uint {w u : World} {b xb : Nat} {bs : List Int} {cs : List Value} (h : WX w u b bs xb cs) {n : Nat} (hn : n < 18446744073709551616) (hl : bs.length + 10 ≤ 140737488355328) {K : World → Prop} (hK : ∀ u', WX w u' b (bs ++ uv n) xb cs → K u') :
    Calls Tryd.prog 31 #[.pointer (some ⟨b, 0, none⟩), .int .u64 n] u fun e u' => e = .returned (.tuple #[]) ∧ K u' := by
  obtain ⟨h1, h2, h3, a, h4, h5, h6⟩ := h
  refine (uint_c u b a bs n h4 hn hl).mono ?_
  rintro e u' ⟨rfl, hr⟩
  exact ⟨rfl, hK u' (WX.step h1 h2 h3 h4 h5 h6 hr)⟩
theorem wx_int {w u : World} {b xb : Nat} {bs : List Int} {cs : List Value} (h : WX w u b bs xb cs) {n : Int} (hn : I64 n) (hl : bs.length + 10 ≤ 140737488355328) {K : World → Prop} (hK : ∀ u', WX w u' b (bs ++ iv n) xb cs → K u') :
    Calls Tryd.prog 67 #[.pointer (some ⟨b, 0, none⟩), .int .i64 n] u fun e u' => e = .returned (.tuple #[]) ∧ K u' := by
  obtain ⟨h1, h2, h3, a, h4, h5, h6⟩ := h
  refine (int_c u b a bs n h4 hn hl).mono ?_
  rintro e u' ⟨rfl, hr⟩
  exact ⟨rfl, hK u' (WX.step h1 h2 h3 h4 h5 h6 hr)⟩
theorem wx_raw {w u : World} {b xb : Nat} {bs ys : List Int} {cs : List Value} (h : WX w u b bs xb cs) {xa : Option Addr} {xn xc : Nat} (hx : RSl u 1 xa xn xc (u8 ys)) (hl : bs.length + xn ≤ 140737488355328) {K : World → Prop} (hK : ∀ u', WX w u' b (bs ++ ys) xb cs → K u') :
    Calls Tryd.prog 32 #[.pointer (some ⟨b, 0, none⟩), .slice xa xn xc] u fun e u' => e = .returned (.tuple #[]) ∧ K u' := by
  obtain ⟨h1, h2, h3, a, h4, h5, h6⟩ := h
  refine (raw_c u b a bs ys xa xn xc h4 hx hl).mono ?_
  rintro e u' ⟨rfl, hr⟩
  exact ⟨rfl, hK u' (WX.step h1 h2 h3 h4 h5 h6 hr)⟩
theorem map_take_succ {α : Type} {f : α → List Int} {l : List α} {j : Nat} {x : α} (h : l[j]? = some x) : ((l.take (j + 1)).map f).flatten = ((l.take j).map f).flatten ++ f x := by
  rw [List.take_add_one, h]
  simp
theorem flat_take {α : Type} {f : α → List Int} {k j : Nat} {l : List α} (h : ∀ x ∈ l, (f x).length ≤ k) : ((l.take j).map f).flatten.length ≤ j * k := by
  have h1 := flat_len (l := l.take j) fun x hx => h x (List.mem_of_mem_take hx)
  have h2 : (l.take j).length * k ≤ j * k := Nat.mul_le_mul_right _ (List.length_take_le _ _)
  omega
theorem zc125 : zc Tryd.prog 127 = [.slice none 0 0, .slice none 0 0] := by kernel_rfl
theorem encode_c {F : Nat → Prop} (w : World) (a : Option Addr) (n c : Nat) (l : List Tx) (h : BatchV F w a n c l) :
    Calls Tryd.prog 29 #[.slice a n c] w fun e w' => BytesR w (encB l) e w' := by
  have hn := h.count
  refine c29 _ _ _ ?_
  unfold d29
  refine (first_c w a n c l h).mono ?_
  rintro e w2 ⟨rfl, ht⟩
  refine ⟨_, _, rfl, _, rfl, _, rfl, ?_⟩
  by_cases h0 : (firstS l).2 = 0
  rotate_left
  · rw [bif_nneg h0]
    unfold encB
    rw [if_pos h0]
    exact ⟨none, 0, rfl, own_nil _ _ _ _, ht⟩
  rw [bif_npos h0]
  have hgood := (firstS_zero l).1 h0
  have hok := h.ok
  rw [encB_good hgood]
  refine (new_c w2).mono ?_
  rintro e w8 ⟨rfl, hW, ht8⟩
  have hb := ht.size
  generalize w2.heap.size = b at *
  refine ⟨_, rfl, ?_⟩
  rw [wrap_u64 (by omega) (by omega)]
  refine (uint_c w8 b none [] n hW (by omega) (by simp)).mono ?_
  rintro e w11 ⟨rfl, hR⟩
  have hO := WO.step (ht.trans ht8 (by simp)) hb hW hR
  rw [List.nil_append] at hO
  clear hR hW ht8 ht
  refine ⟨rfl, ?_⟩
  have hun := (uv_len10 (n := n) (by omega)).2
  refine ⟨fun m x u => ∃ i : Nat, x = i ∧ i ≤ n ∧ m = n - i ∧ WO w u b (uv n ++ encTxs (l.take i)), ⟨n, 0, rfl, by omega, rfl, by simpa [encTxs] using hO⟩, ?_⟩
  clear hO
  rintro m w14 x ⟨i, rfl, hi, rfl, hO⟩
  have hlen : (encTxs (l.take i)).length ≤ i * 520 := flat_take fun x hx => encTx_len (hok x hx) (hgood.2 x hx)
  by_cases hlt : i < n
  rotate_left
  · obtain rfl : i = n := by omega
    rw [bif_neg (by omega)]
    rw [List.take_of_length_le (by omega)] at hO hlen
    obtain ⟨ht, _, a1, hW⟩ := hO
    refine (out_c w14 b a1 _ hW (by rw [List.length_append]; omega)).mono ?_
    rintro e w67 ⟨a2, c2, rfl, hown, ht2⟩
    refine ⟨_, _, _, rfl, ?_⟩
    rw [hn]
    exact ⟨a2, c2, rfl, own_base hown ht.size, ht.trans ht2 (by simp)⟩
  rw [bif_pos (by omega)]
  refine ⟨by omega, by omega, ?_⟩
  rw [Int.toNat_natCast]
  have hli : l[i]? = some (l[i]'(by omega)) := List.getElem?_eq_getElem (by omega)
  generalize l[i]'(by omega) = x at hli
  have hxg := hgood.2 x (List.mem_of_getElem? hli)
  have hxo := hok x (List.mem_of_getElem? hli)
  obtain ⟨gp, ga, gr, gw, gR, gW⟩ := hxg
  refine h.elemW hO.1 hli fun v hv => ?_
  refine var_init (n := 4) (by rw [zcTx]; rfl) hv.len hv.ones fun w18 w19 h1 h2 h3 => ?_
  have hX : WX w w19 b (uv n ++ encTxs (l.take i)) w14.heap.size v := by
    obtain ⟨ht, hb, a1, hW⟩ := hO
    refine ⟨ht.trans h2 (by simp), hb, hW.lt, a1, hW.quiet h2, fun hm => ?_, h1⟩
    rcases List.mem_cons.1 hm with hm | hm
    · have := hW.lt; omega
    · have := (hW.row _ hm).2; omega
  clear h1 h2 h3
  generalize w14.heap.size = xb at *
  have hpre : (uv n ++ encTxs (l.take i)).length ≤ 40000 := by rw [List.length_append]; omega
  have hnew : uv n ++ encTxs (l.take (i + 1)) = (uv n ++ encTxs (l.take i)) ++ encTx x := by
    unfold encTxs
    rw [map_take_succ hli, List.append_assoc]
  generalize uv n ++ encTxs (l.take i) = pre at *
  generalize hpost : uv n ++ encTxs (l.take (i + 1)) = post at *
  obtain ⟨a1, n1, c1, a2, n2, c2, a3, n3, c3, rfl, h1, h2, h3, _⟩ := hv
  have e1 := args_count h1
  have e2 := keys_count h2
  have e3 := keys_count h3
  have cell : ∀ {u : World} {bs : List Int}, WX w u b bs xb [.int .i64 x.proc, .slice a1 n1 c1, .slice a2 n2 c2, .slice a3 n3 c3] → Blk u xb [.int .i64 x.proc, .slice a1 n1 c1, .slice a2 n2 c2, .slice a3 n3 c3] := fun h => by
    obtain ⟨_, _, _, _, _, _, hx⟩ := h
    exact hx
  have lit : ∀ {ys : List Int}, I64 0 := by unfold I64; simp
  clear lit
  refine ⟨x.proc, by rw [add_mk]; exact (cell hX).cell 0, ?_⟩
  rw [wrap_u64 (by omega) (by omega), show x.proc = ((x.proc.toNat : Nat) : Int) by omega]
  refine wx_uint hX (by omega) (by omega) fun w22 hX => ?_
  have lp := (uv_len10 (n := x.proc.toNat) (by omega)).2
  refine ⟨a1, n1, c1, by rw [add_mk]; exact (cell hX).cell 1, ?_⟩
  rw [wrap_u64 (by omega) (by omega)]
  refine wx_uint hX (by omega) (by rw [List.length_append]; omega) fun w25 hX => ?_
  have la := (uv_len10 (n := n1) (by omega)).2
  refine ⟨a1, n1, c1, by rw [add_mk]; exact (cell hX).cell 1, ?_⟩
  have hp2 : (pre ++ uv x.proc.toNat ++ uv n1).length ≤ 40020 := by simp only [List.length_append]; omega
  have hfin : post = (pre ++ uv x.proc.toNat ++ uv n1) ++ ((x.args.map iv).flatten ++ (encKs x.reads ++ encKs x.writes)) := by
    rw [hnew]
    unfold encTx
    rw [e1]
    simp only [List.append_assoc]
  generalize pre ++ uv x.proc.toNat ++ uv n1 = pre2 at *
  clear hnew hpre
  have hiv : ∀ v ∈ x.args, (iv v).length ≤ 10 := fun v hv => (uv_len10 (fold_range (hxo.args v hv))).2
  refine ⟨fun m k u => ∃ j : Nat, k = j ∧ j ≤ n1 ∧ m = n1 - j ∧ WX w u b (pre2 ++ ((x.args.take j).map iv).flatten) xb [.int .i64 x.proc, .slice a1 n1 c1, .slice a2 n2 c2, .slice a3 n3 c3], ⟨n1, 0, rfl, by omega, rfl, by simpa using hX⟩, ?_⟩
  clear hX
  rintro m w29 k ⟨j, rfl, hj, rfl, hX⟩
  have hja := flat_take (j := j) hiv
  by_cases hjn : j < n1
  · rw [bif_pos (by omega)]
    refine ⟨by omega, by omega, ?_⟩
    rw [Int.toNat_natCast]
    have hvj : x.args[j]? = some (x.args[j]'(by omega)) := List.getElem?_eq_getElem (by omega)
    obtain ⟨b1, o1, rfl, hc⟩ := (h1.tch hX.1 (by simp)).1.int (i := j) hjn
    show ∃ _, _
    rw [add_mk, Nat.mul_one]
    refine ⟨_, hc, ?_⟩
    rw [show x.args.getD j 0 = x.args[j]'(by omega) by simp [List.getD_eq_getElem?_getD, hvj]]
    generalize x.args[j]'(by omega) = v at hvj
    refine wx_int hX (hxo.args v (List.mem_of_getElem? hvj)) (by rw [List.length_append]; omega) fun w34 hX => ?_
    refine ⟨n1 - (j + 1), by omega, j + 1, by rw [wrap_i64 (by omega) (by omega)]; omega, by omega, rfl, ?_⟩
    rw [map_take_succ hvj, ← List.append_assoc]
    exact hX
  rw [bif_neg (by omega)]
  obtain rfl : j = n1 := by omega
  rw [List.take_of_length_le (by omega)] at hX hja
  refine ⟨a2, n2, c2, by rw [add_mk]; exact (cell hX).cell 2, a3, n3, c3, by rw [add_mk]; exact (cell hX).cell 3, [.slice a2 n2 c2, .slice a3 n3 c3], by rw [zc125]; rfl, ?_⟩
  have hp3 : (pre2 ++ (x.args.map iv).flatten).length ≤ 40180 := by rw [List.length_append]; omega
  rw [← List.append_assoc] at hfin
  generalize pre2 ++ (x.args.map iv).flatten = pre3 at *
  clear hp2 hja
  refine ⟨fun m k u => ∃ q : Nat, k = q ∧ q ≤ 2 ∧ m = 2 - q ∧ WX w u b (pre3 ++ (if q = 0 then [] else if q = 1 then encKs x.reads else encKs x.reads ++ encKs x.writes)) xb [.int .i64 x.proc, .slice a1 j c1, .slice a2 n2 c2, .slice a3 n3 c3], ⟨2, 0, rfl, by omega, rfl, by simpa using hX⟩, ?_⟩
  clear hX
  rintro m w41 k ⟨q, rfl, hq, rfl, hX⟩
  by_cases hq2 : q < 2
  rotate_left
  · rw [bif_neg (by omega)]
    refine ⟨n - (i + 1), by omega, i + 1, by rw [wrap_i64 (by omega) (by omega)]; omega, by omega, rfl, ?_⟩
    rw [if_neg (by omega), if_neg (by omega)] at hX
    rw [hpost, hfin]
    exact hX.out
  rw [bif_pos (by omega)]
  obtain ⟨a4, n4, c4, ks, hel, hfr, hri, hki, hn16, hstart, hend⟩ : ∃ (a4 : Option Addr) (n4 c4 : Nat) (ks : List (Int × Int)), ([Value.slice a2 n2 c2, .slice a3 n3 c3] : List Value)[q]? = some (.slice a4 n4 c4) ∧ FR F w 2 a4 n4 c4 (rows kC ks) ∧ RisesS ks ∧ (∀ k ∈ ks, kI k) ∧ ks.length ≤ 16 ∧
      (if q = 0 then [] else if q = 1 then encKs x.reads else encKs x.reads ++ encKs x.writes).length ≤ 170 ∧ (if q + 1 = 0 then [] else if q + 1 = 1 then encKs x.reads else encKs x.reads ++ encKs x.writes) = (if q = 0 then [] else if q = 1 then encKs x.reads else encKs x.reads ++ encKs x.writes) ++ encKs ks := by
    rcases (show q = 0 ∨ q = 1 by omega) with rfl | rfl
    · exact ⟨a2, n2, c2, x.reads, rfl, h2, gR, hxo.reads, gr, by simp, by simp⟩
    · exact ⟨a3, n3, c3, x.writes, rfl, h3, gW, hxo.writes, gw, by simpa using encKs_len gr, by simp⟩
  have e4 := keys_count hfr
  refine ⟨by omega, by omega, a4, n4, c4, by rw [Int.toNat_natCast, Nat.mul_one]; simpa using hel, ?_⟩
  rw [wrap_u64 (by omega) (by omega)]
  refine wx_uint hX (by omega) (by rw [List.length_append]; omega) fun w45 hX => ?_
  have lk := (uv_len10 (n := n4) (by omega)).2
  have hnext : pre3 ++ (if q + 1 = 0 then [] else if q + 1 = 1 then encKs x.reads else encKs x.reads ++ encKs x.writes) = (pre3 ++ (if q = 0 then [] else if q = 1 then encKs x.reads else encKs x.reads ++ encKs x.writes) ++ uv n4) ++ (ks.map fun k => keyB k.1 k.2).flatten := by
    rw [hend, show encKs ks = uv n4 ++ (ks.map fun k => keyB k.1 k.2).flatten by unfold encKs; rw [e4]]
    simp only [List.append_assoc]
  have hp4 : (pre3 ++ (if q = 0 then [] else if q = 1 then encKs x.reads else encKs x.reads ++ encKs x.writes) ++ uv n4).length ≤ 40360 := by simp only [List.length_append]; omega
  generalize pre3 ++ (if q = 0 then [] else if q = 1 then encKs x.reads else encKs x.reads ++ encKs x.writes) ++ uv n4 = pre4 at *
  refine ⟨fun m k u => ∃ p : Nat, k = p ∧ p ≤ n4 ∧ m = n4 - p ∧ WX w u b (pre4 ++ ((ks.take p).map fun k => keyB k.1 k.2).flatten) xb [.int .i64 x.proc, .slice a1 j c1, .slice a2 n2 c2, .slice a3 n3 c3], ⟨n4, 0, rfl, by omega, rfl, by simpa using hX⟩, ?_⟩
  clear hX
  rintro m w48 k ⟨p, rfl, hp, rfl, hX⟩
  have hkp := flat_take (l := ks) (f := fun k => keyB k.1 k.2) (k := 10) (j := p) fun x _ => Nat.le_of_eq (keyB_length _ _)
  by_cases hpn : p < n4
  rotate_left
  · rw [bif_neg (by omega)]
    rw [List.take_of_length_le (by omega)] at hX
    refine ⟨2 - (q + 1), by omega, q + 1, by rw [wrap_i64 (by omega) (by omega)]; omega, by omega, rfl, ?_⟩
    rw [hnext]
    exact hX
  rw [bif_pos (by omega)]
  refine ⟨by omega, by omega, ?_⟩
  rw [Int.toNat_natCast]
  have hkq : ks[p]? = some (ks[p]'(by omega)) := List.getElem?_eq_getElem (by omega)
  generalize ks[p]'(by omega) = k at hkq
  refine (hfr.tch hX.1 (by simp)).1.elem kC_len (by omega) hkq ?_
  refine var_init (n := 2) (by rw [zcKey]; rfl) rfl kC_one fun w52 w53 g1 g2 _ => ?_
  replace hX := hX.quiet g2
  refine get_all g1 rfl ?_
  refine (bytes_c k.1 k.2 w53).mono ?_
  rintro e w56 hk
  rw [if_pos (hri.1 k (List.mem_of_getElem? hkq))] at hk
  obtain ⟨ka, kc, rfl, hkb, ht5⟩ := hk
  replace hX := hX.quiet ht5
  refine ⟨_, _, _, _, rfl, _, _, _, rfl, _, rfl, ?_⟩
  refine wx_raw hX (own_rsl hkb ones_ints) (by rw [List.length_append]; omega) fun w62 hX => ?_
  refine ⟨n4 - (p + 1), by omega, p + 1, by rw [wrap_i64 (by omega) (by omega)]; omega, by omega, rfl, ?_⟩
  rw [map_take_succ (f := fun k : Int × Int => keyB k.1 k.2) hkq, ← List.append_assoc]
  exact hX
end Go.Proofs.YtjchneebdlncfaaDoor.Lib
namespace Go.Proofs.YtjchneebdlncfaaDoor.Lib
open Go Den Fn
open Go.RowKit (Below)
set_option maxRecDepth 8000
set_option maxHeartbeats 1000000
theorem elem8 {w : World} {a : Option Addr} {n c : Nat} {bs : List Int} (h : RSl w 1 a n c (u8 bs)) {i : Nat} (hi : i < n) {K : Int → Prop} (hK : K (bs.getD i 0)) :
    optK a fun x => ∃ y : Int, World.cell? w (Addr.add x (i * 1)) = some (.int .u8 y) ∧ K y := by
  obtain ⟨b, o, rfl, g⟩ := h.int hi
  refine ⟨_, ?_, hK⟩
  rw [add_mk, Nat.mul_one]
  exact g
theorem _root_.Go.Proofs.YtjchneebdlncfaaDoor.Den.RSl.tch0 {s : List Nat} {w w' : World} {sz n c : Nat} {a : Option Addr} {cs : List Value} (h : RSl w sz a n c cs) (ht : Tch s w w') (hs : n = 0 ∨ Off s a) : RSl w' sz a n c cs := by
  rcases hs with h0 | hs
  · refine ⟨h.cap, h.len, h.ones, ?_⟩
    rcases h.at' with h' | ⟨b, o, h1, h2⟩
    · exact .inl h'
    · have := h.len
      rw [h0, Nat.zero_mul] at this
      rw [List.length_eq_zero_iff.1 this]
      exact .inr ⟨b, o, h1, fun i v hv => by simp at hv⟩
  · exact h.tch ht hs
theorem _root_.Go.Proofs.YtjchneebdlncfaaDoor.Den.RSl.low {w : World} {sz n c : Nat} {a : Option Addr} {cs : List Value} (h : RSl w sz a n c cs) (h0 : 0 < sz) : n = 0 ∨ ∀ x, a = some x → x.block < w.heap.size := by
  rcases Nat.eq_zero_or_pos n with hn | hn
  · exact .inl hn
  · refine .inr fun x hx => ?_
    rcases h.at' with h' | ⟨b, o, h1, h2⟩
    · have := h.cap; omega
    · rw [h1] at hx
      cases hx
      have hl := h.len
      have : 0 < n * sz := Nat.mul_pos hn h0
      obtain ⟨v, hv⟩ : ∃ v, cs[0]? = some v := ⟨cs[0], by simp⟩
      have := h2 0 v hv
      rw [add_mk] at this
      exact World.block_lt_of_cell? _ _ this
/-- A reader at a block: what it reads, where it stands, its error. -/
structure Rd (w : World) (b : Nat) (a : Option Addr) (n c : Nat) (bs : List Int) (p : Nat) (e : Int) : Prop where
  blk : Blk w b [.slice a n c, .int .i64 p, .int .i64 e]
  row : RSl w 1 a n c (u8 bs)
  off : n = 0 ∨ Off [b] a
  le : p ≤ n
  B : Bytes bs
  N : n ≤ 140737488355328
/-- Behind a call. -/
def RdR (w w' : World) (b : Nat) (a : Option Addr) (n c : Nat) (bs : List Int) (st : Nat × Int) : Prop := Rd w' b a n c bs st.1 st.2 ∧ Tch [b] w w'
theorem Rd.len {w : World} {b n c p : Nat} {a : Option Addr} {bs : List Int} {e : Int} (h : Rd w b a n c bs p e) : bs.length = n := u8_len h.row
theorem Rd.quiet {w w' : World} {b n c p : Nat} {a : Option Addr} {bs : List Int} {e : Int} (h : Rd w b a n c bs p e) (ht : Tch [] w w') : Rd w' b a n c bs p e :=
  ⟨h.blk.tch ht (by simp), h.row.tch ht (fun _ _ h => by cases h), h.off, h.le, h.B, h.N⟩
theorem Rd.tch {w w' : World} {b n c p : Nat} {a : Option Addr} {bs : List Int} {e : Int} {s : List Nat} (h : Rd w b a n c bs p e) (ht : Tch s w w') (hb : b ∉ s) (ha : n = 0 ∨ Off s a) : Rd w' b a n c bs p e :=
  ⟨h.blk.tch ht hb, h.row.tch0 ht ha, h.off, h.le, h.B, h.N⟩
theorem Rd.refl {w : World} {b n c p : Nat} {a : Option Addr} {bs : List Int} {e : Int} (h : Rd w b a n c bs p e) : RdR w w b a n c bs (p, e) := ⟨h, Tch.refl _ _⟩
theorem RdR.trans {w w1 w2 : World} {b n c : Nat} {a : Option Addr} {bs : List Int} {st st' : Nat × Int} (h : RdR w w1 b a n c bs st) (k : RdR w1 w2 b a n c bs st') : RdR w w2 b a n c bs st' :=
  ⟨k.1, h.2.trans k.2 fun i hi => .inl hi⟩
theorem RdR.pre {w w1 w2 : World} {b n c : Nat} {a : Option Addr} {bs : List Int} {st : Nat × Int} (h : Tch [] w w1) (k : RdR w1 w2 b a n c bs st) : RdR w w2 b a n c bs st :=
  ⟨k.1, (h.weaken (by simp)).trans k.2 fun i hi => .inl hi⟩
theorem RdR.post {w w1 w2 : World} {b n c : Nat} {a : Option Addr} {bs : List Int} {st : Nat × Int} (h : RdR w w1 b a n c bs st) (k : Tch [] w1 w2) : RdR w w2 b a n c bs st :=
  ⟨h.1.quiet k, h.2.trans k (by simp)⟩
theorem Rd.slice {w : World} {b n c p : Nat} {a : Option Addr} {bs : List Int} {e : Int} (h : Rd w b a n c bs p e) {K : Option Addr → Nat → Nat → Prop} (hK : K a n c) :
    optK (some ⟨b, 0, none⟩) fun x => ∃ (y : Option Addr) (yn : Nat) (yc : Nat), World.cell? w (Addr.add x 0) = some (.slice y yn yc) ∧ K y yn yc := ⟨a, n, c, by rw [add_mk]; exact h.blk.cell 0, hK⟩
theorem Rd.at {w : World} {b n c p : Nat} {a : Option Addr} {bs : List Int} {e : Int} (h : Rd w b a n c bs p e) {K : Int → Prop} (hK : K p) :
    optK (some ⟨b, 0, none⟩) fun x => ∃ y : Int, World.cell? w (Addr.add x 1) = some (.int .i64 y) ∧ K y := ⟨_, by rw [add_mk]; exact h.blk.cell 1, hK⟩
theorem Rd.err {w : World} {b n c p : Nat} {a : Option Addr} {bs : List Int} {e : Int} (h : Rd w b a n c bs p e) {K : Int → Prop} (hK : K e) :
    optK (some ⟨b, 0, none⟩) fun x => ∃ y : Int, World.cell? w (Addr.add x 2) = some (.int .i64 y) ∧ K y := ⟨_, by rw [add_mk]; exact h.blk.cell 2, hK⟩
theorem Rd.setErr {w : World} {b n c p : Nat} {a : Option Addr} {bs : List Int} {e : Int} (h : Rd w b a n c bs p e) (k : Int) {K : World → Prop} (hK : ∀ w', RdR w w' b a n c bs (p, k) → K w') :
    optK (some ⟨b, 0, none⟩) fun x => one (.int .i64 k) = true ∧ Option.isSome (World.cell? w (Addr.add x 2)) = true ∧ World.frozen? w (Addr.add x 2) = false ∧ ∀ w' : World, w' = World.setCell w (Addr.add x 2) (.int .i64 k) → K w' := by
  show _ ∧ _
  rw [add_mk]
  refine ⟨rfl, by rw [h.blk.cell]; rfl, h.blk.frozen _, ?_⟩
  rintro w' rfl
  have ht := (Tch.refl [b] w).setCell (p := ⟨b, 0 + 2, none⟩) (.inl (by simp)) (.int .i64 k)
  exact hK _ ⟨⟨h.blk.set 2 _, h.row.tch0 ht h.off, h.off, h.le, h.B, h.N⟩, ht⟩
theorem Rd.setAt {w : World} {b n c p : Nat} {a : Option Addr} {bs : List Int} {e : Int} (h : Rd w b a n c bs p e) {k : Int} {q : Nat} (hk : k = q) (hq : q ≤ n) {K : World → Prop} (hK : ∀ w', RdR w w' b a n c bs (q, e) → K w') :
    optK (some ⟨b, 0, none⟩) fun x => one (.int .i64 k) = true ∧ Option.isSome (World.cell? w (Addr.add x 1)) = true ∧ World.frozen? w (Addr.add x 1) = false ∧ ∀ w' : World, w' = World.setCell w (Addr.add x 1) (.int .i64 k) → K w' := by
  subst hk
  show _ ∧ _
  rw [add_mk]
  refine ⟨rfl, by rw [h.blk.cell]; rfl, h.blk.frozen _, ?_⟩
  rintro w' rfl
  have ht := (Tch.refl [b] w).setCell (p := ⟨b, 0 + 1, none⟩) (.inl (by simp)) (.int .i64 (q : Int))
  exact hK _ ⟨⟨h.blk.set 1 _, h.row.tch0 ht h.off, h.off, hq, h.B, h.N⟩, ht⟩

/-! ### Sums of groups of seven bits -/
theorem and127 {c : Int} (h0 : 0 ≤ c) (h1 : c < 256) : bAnd .u8 c 127 = ((c.toNat % 128 : Nat) : Int) := by
  have key : ∀ m : Fin 256, bAnd .u8 (m.val : Int) 127 = ((m.val % 128 : Nat) : Int) := by decide +kernel
  have h := key ⟨c.toNat, by omega⟩
  simp only at h
  rwa [show ((c.toNat : Nat) : Int) = c by omega] at h
theorem part_lt {k x : Nat} (hk : k ≤ 9) (hx : x < 128) (h9 : k = 9 → x ≤ 1) : x * 2 ^ (7 * k) < 18446744073709551616 := by
  by_cases h : k = 9
  · subst h
    have : x * 2 ^ (7 * 9) ≤ 1 * 2 ^ (7 * 9) := Nat.mul_le_mul_right _ (h9 rfl)
    omega
  · have h1 : 2 ^ (7 * k) ≤ 2 ^ 56 := Nat.pow_le_pow_right (by omega) (by omega)
    have h2 : x * 2 ^ (7 * k) ≤ 127 * 2 ^ 56 := Nat.mul_le_mul (by omega) h1
    omega
theorem sum_lt {bs : List Int} {k : Nat} (hk : k ≤ 9) (h9 : k = 9 → (bs.getD k 0).toNat % 128 ≤ 1) : numA bs (k + 1) < 18446744073709551616 := by
  by_cases h : k = 9
  · subst h
    have h1 := numA_lt bs 9
    have h2 : (bs.getD 9 0).toNat % 128 * 2 ^ (7 * 9) ≤ 1 * 2 ^ (7 * 9) := Nat.mul_le_mul_right _ (h9 rfl)
    show numA bs 9 + (bs.getD 9 0).toNat % 128 * 2 ^ (7 * 9) < _
    omega
  · have h1 := numA_lt bs (k + 1)
    have h2 : 2 ^ (7 * (k + 1)) ≤ 2 ^ 63 := Nat.pow_le_pow_right (by omega) (by omega)
    omega
theorem shl7 {k x : Nat} (hk : k ≤ 9) (hx : x < 128) (h9 : k = 9 → x ≤ 1) : shL .u64 (x : Int) ((7 * k : Nat) : Int) = ((x * 2 ^ (7 * k) : Nat) : Int) := by
  have hlt := part_lt hk hx h9
  unfold shL
  rw [Int.toNat_natCast, Nat.min_eq_left (show 7 * k ≤ IntKind.bits .u64 from (by omega : 7 * k ≤ 64))]
  rw [show (x : Int) * 2 ^ (7 * k) = ((x * 2 ^ (7 * k) : Nat) : Int) by norm_cast]
  exact wrap_u64 (Int.natCast_nonneg _) (by generalize x * 2 ^ (7 * k) = y at hlt ⊢; omega)
theorem num_or {bs : List Int} {k : Nat} (hk : k ≤ 9) (h9 : k = 9 → (bs.getD k 0).toNat % 128 ≤ 1) :
    bOr .u64 ((numA bs k : Nat) : Int) (((bs.getD k 0).toNat % 128 * 2 ^ (7 * k) : Nat) : Int) = ((numA bs (k + 1) : Nat) : Int) := by
  have hlt := sum_lt hk h9
  have e : (bs.getD k 0).toNat % 128 * 2 ^ (7 * k) + numA bs k = numA bs (k + 1) := by show _ = numA bs k + _; omega
  rw [bOr_comm, bOr_nat (k := .u64) (by decide) (7 * k) (numA_lt bs k) (by rw [e]; exact hlt) (by rw [e]; exact wrap_u64 (by omega) (by omega)), e]

theorem ruint_c (w : World) (b n c p : Nat) (a : Option Addr) (bs : List Int) (e : Int) (h : Rd w b a n c bs p e) :
    Calls Tryd.prog 84 #[.pointer (some ⟨b, 0, none⟩), .int .i64 p] w fun e w' =>
      e = .returned (.tuple #[.int .u64 (number (bs.drop p)).1, .int .i64 ((p + (number (bs.drop p)).2.1 : Nat) : Int), .int .i64 (number (bs.drop p)).2.2]) ∧ w' = w := by
  refine c84 _ _ ?_
  unfold d84
  have hn := h.len
  have hN := h.N
  have hple := h.le
  have hDl : (bs.drop p).length = n - p := by rw [List.length_drop]; omega
  refine ⟨fun m x y w' => ∃ k : Nat, k ≤ 9 ∧ y = k ∧ x = ((numA (bs.drop p) k : Nat) : Int) ∧ m = 10 - k ∧ (∀ i, i < k → numOn (bs.drop p) i) ∧ w' = w, ⟨10, 0, by omega, rfl, rfl, rfl, fun i hi => by omega, rfl⟩, ?_⟩
  rintro m w4 x y ⟨k, hk9, rfl, rfl, rfl, hon, rfl⟩
  refine h.slice ?_
  rw [wrap_i64 (n := (p : Int) + (k : Int)) (by omega) (by omega)]
  by_cases hs : n ≤ p + k
  · rw [bif_pos (by omega), number_short (k := k) (by omega) hon (by omega)]
    exact ⟨rfl, rfl⟩
  rw [bif_neg (by omega)]
  refine h.slice ⟨by omega, by omega, ?_⟩
  rw [show Int.toNat ((p : Int) + (k : Int)) = p + k by omega]
  refine elem8 h.row (by omega) ?_
  have hgd : bs.getD (p + k) 0 = (bs.drop p).getD k 0 := by rw [getD_drop]
  have hc := byte_of (h.B.drop p) k
  rw [hgd]
  by_cases hf : (k = 9 ∧ 1 < (bs.drop p).getD k 0) ∨ (0 < k ∧ (bs.drop p).getD k 0 = 0)
  · refine ⟨fun _ => False, ?_, fun _ h => h.elim⟩
    rw [number_form (k := k) (by omega) hon (by omega) hf]
    rcases hf with ⟨h1, h2⟩ | ⟨h1, h2⟩
    · rw [bif_pos (by omega), bif_pos h2]
      exact ⟨rfl, rfl⟩
    · by_cases h9 : k = 9
      · rw [bif_pos (by omega), bif_neg (by omega), bif_pos (by omega), bif_pos h2]
        exact ⟨rfl, rfl⟩
      · rw [bif_neg (by omega), bif_pos (by omega), bif_pos h2]
        exact ⟨rfl, rfl⟩
  have h9 : k = 9 → ((bs.drop p).getD k 0).toNat % 128 ≤ 1 := fun h9 => by
    have : ¬ 1 < (bs.drop p).getD k 0 := fun h => hf (.inl ⟨h9, h⟩)
    omega
  refine ⟨fun w' => w' = w4, ?_, ?_⟩
  · by_cases h9' : k = 9
    · rw [bif_pos (by omega), bif_neg (fun h => hf (.inl ⟨h9', h⟩)), bif_pos (by omega), bif_neg (fun h => hf (.inr ⟨by omega, h⟩))]
    · rw [bif_neg (by omega)]
      by_cases h0 : 0 < k
      · rw [bif_pos (by omega), bif_neg (fun h => hf (.inr ⟨h0, h⟩))]
      · rw [bif_neg (by omega)]
  rintro w14 rfl
  rw [wrap_i64 (n := 7 * (k : Int)) (by omega) (by omega), and127 hc.1 hc.2, wrap_u64 (n := ((((bs.drop p).getD k 0).toNat % 128 : Nat) : Int)) (by omega) (by omega), show 7 * (k : Int) = ((7 * k : Nat) : Int) by omega, shl7 hk9 (by omega) h9, num_or hk9 h9]
  refine ⟨by omega, ?_⟩
  by_cases hlt : (bs.drop p).getD k 0 < 128
  · rw [bif_pos hlt, number_ok (k := k) (by omega) hon (by omega) hf hlt, wrap_i64 (by omega) (by omega)]
    exact ⟨by rw [show (p : Int) + k + 1 = ((p + (k + 1) : Nat) : Int) by omega], rfl⟩
  · rw [bif_neg hlt, wrap_i64 (by omega) (by omega)]
    have hk8 : k ≠ 9 := fun h => by have := h9 h; have : ¬ 1 < (bs.drop p).getD k 0 := fun h' => hf (.inl ⟨h, h'⟩); omega
    refine ⟨10 - (k + 1), by omega, k + 1, by omega, by omega, rfl, rfl, fun i hi => ?_, rfl⟩
    by_cases hik : i = k
    · subst hik; exact ⟨by omega, hf, hlt⟩
    · exact hon i (by omega)
theorem zcReader : zc Tryd.prog 148 = [.slice none 0 0, .int .i64 0, .int .i64 0] := by kernel_rfl
theorem read_c (w : World) (bs : List Int) (xa : Option Addr) (n xc : Nat) (hr : RSl w 1 xa n xc (u8 bs)) (hB : Bytes bs) (hN : n ≤ 140737488355328) :
    Calls Tryd.prog 76 #[.slice xa n xc] w fun e w' => ∃ b a c, e = .returned (.pointer (some ⟨b, 0, none⟩)) ∧ Rd w' b a n c bs 0 0 ∧ Tch [] w w' ∧ w.heap.size ≤ b ∧ (∀ x, a = some x → w.heap.size ≤ x.block) := by
  refine c76 _ _ _ ?_
  unfold d76
  refine (clone_c w bs xa n xc hr hN).mono ?_
  rintro e w2 ⟨a, c, rfl, hown, ht⟩
  refine ⟨_, _, _, rfl, [.slice a n c, .int .i64 0, .int .i64 0], by rw [zcReader]; rfl, ?_⟩
  rintro w5 rfl
  have ht5 := (Tch.refl [] w2).alloc (.cells [Value.slice a n c, .int .i64 0, .int .i64 0].toArray 148)
  have hge := own_ge hown
  refine ⟨_, a, c, rfl, ⟨Blk.fresh _ _ rfl, (own_rsl hown ones_ints).tch ht5 (fun _ _ h => by cases h), .inr fun x hx hm => ?_, by omega, hB, hN⟩, ht.trans ht5 (by simp), ht.size, fun x hx => (hge x hx).1⟩
  have := (hge x hx).2
  simp at hm
  omega
theorem upto_c (w : World) (b n c p : Nat) (a : Option Addr) (bs : List Int) (e : Int) (most : Nat) (h : Rd w b a n c bs p e) :
    Calls Tryd.prog 49 #[.pointer (some ⟨b, 0, none⟩), .int .u64 most] w fun en w' => en = .returned (.int .u64 (rUpto bs most p e).1) ∧ RdR w w' b a n c bs (rUpto bs most p e).2 := by
  refine c49 _ _ ?_
  unfold d49
  have hr := number_range (h.B.drop p)
  have hn := h.len
  have hple := h.le
  rw [List.length_drop] at hr
  refine h.err ?_
  by_cases he : e = 0
  rotate_left
  · rw [bif_nneg he]
    unfold rUpto
    rw [if_pos he]
    exact ⟨rfl, h.refl⟩
  subst he
  rw [bif_npos rfl]
  refine h.at ?_
  refine (ruint_c w b n c p a bs 0 h).mono ?_
  rintro en w7 ⟨rfl, rfl⟩
  refine ⟨_, _, _, rfl, _, rfl, _, rfl, _, rfl, ?_⟩
  unfold rUpto
  rw [if_neg (show ¬ (0 : Int) ≠ 0 by omega)]
  by_cases h0 : (number (bs.drop p)).2.2 = 0
  rotate_left
  · refine ⟨fun k w' => k = (number (bs.drop p)).2.2 ∧ w' = w7, by rw [bif_neg h0]; exact ⟨rfl, rfl⟩, ?_⟩
    rintro w15 k ⟨rfl, rfl⟩
    rw [bif_nneg h0, if_pos h0]
    exact h.setErr _ fun w' hw => ⟨rfl, hw⟩
  rw [if_neg (by simpa using h0)]
  by_cases hm : most < (number (bs.drop p)).1
  · refine ⟨fun k w' => k = 12 ∧ w' = w7, by rw [bif_pos h0, bif_pos (by omega)]; exact ⟨rfl, rfl⟩, ?_⟩
    rintro w15 k ⟨rfl, rfl⟩
    rw [bif_nneg (by omega), if_pos hm]
    exact h.setErr _ fun w' hw => ⟨rfl, hw⟩
  · refine ⟨fun k w' => k = 0 ∧ w' = w7, by rw [bif_pos h0, bif_neg (by omega)]; exact ⟨h0, rfl⟩, ?_⟩
    rintro w15 k ⟨rfl, rfl⟩
    rw [bif_npos rfl, if_neg hm]
    exact h.setAt rfl (by omega) fun w' hw => ⟨rfl, hw⟩
theorem uintR_c (w : World) (b n c p : Nat) (a : Option Addr) (bs : List Int) (e : Int) (h : Rd w b a n c bs p e) :
    Calls Tryd.prog 109 #[.pointer (some ⟨b, 0, none⟩)] w fun en w' => en = .returned (.int .u64 (rUpto bs 18446744073709551615 p e).1) ∧ RdR w w' b a n c bs (rUpto bs 18446744073709551615 p e).2 := by
  refine c109 _ ?_
  unfold d109
  refine (upto_c w b n c p a bs e 18446744073709551615 h).mono ?_
  rintro en w' ⟨rfl, hw⟩
  exact ⟨_, rfl, rfl, hw⟩
theorem zag {u : Nat} (h : u < 18446744073709551616) : bXor .i64 (IntKind.wrap .i64 (shR .u64 (u : Int) 1)) (IntKind.wrap .i64 (0 - (IntKind.wrap .i64 (bAnd .u64 (u : Int) 1)))) = unfold' u := by
  have e1 : shR .u64 (u : Int) 1 = ((u / 2 : Nat) : Int) := by
    rw [show (1 : Int) = ((1 : Nat) : Int) from rfl, shR_nat (k := .u64) 1 (by decide)]; omega
  have e2 : bAnd .u64 (u : Int) 1 = ((u % 2 : Nat) : Int) := by
    unfold bAnd
    rw [BitVec.toNat_and, toNat_ofInt (n := IntKind.bits .u64) (by omega) (by show (u : Int) < 18446744073709551616; omega), show (BitVec.ofInt (IntKind.bits .u64) 1).toNat = 2 ^ 1 - 1 from rfl, Nat.and_two_pow_sub_one_eq_mod, Int.toNat_natCast]
    exact wrap_u64 (by omega) (by omega)
  rw [e1, e2, wrap_i64 (n := ((u / 2 : Nat) : Int)) (by omega) (by omega), wrap_i64 (n := ((u % 2 : Nat) : Int)) (by omega) (by omega), wrap_i64 (by omega) (by omega)]
  unfold unfold'
  have h63 : u / 2 < 2 ^ 63 := by omega
  generalize u / 2 = y at *
  split
  · rename_i h2
    rw [h2]
    unfold bXor
    show IntKind.wrap .i64 (((BitVec.ofInt 64 (y : Int) ^^^ BitVec.ofInt 64 (0 - ((0 : Nat) : Int))).toNat : Nat) : Int) = _
    rw [show BitVec.ofInt 64 (0 - ((0 : Nat) : Int)) = 0#64 from rfl, BitVec.xor_zero, toNat_ofInt (n := 64) (by omega) (by show (y : Int) < 18446744073709551616; omega), Int.toNat_natCast]
    exact wrap_i64 (by omega) (by omega)
  · rename_i h2
    rw [show u % 2 = 1 by omega]
    unfold bXor
    show IntKind.wrap .i64 (((BitVec.ofInt 64 (y : Int) ^^^ BitVec.ofInt 64 (0 - ((1 : Nat) : Int))).toNat : Nat) : Int) = _
    rw [show BitVec.ofInt 64 (0 - ((1 : Nat) : Int)) = BitVec.allOnes 64 from rfl, BitVec.xor_allOnes, BitVec.toNat_not, toNat_ofInt (n := 64) (by omega) (by show (y : Int) < 18446744073709551616; omega), Int.toNat_natCast]
    simp only [IntKind.wrap, IntKind.bits, IntKind.signed]
    simp
    omega
theorem intR_c (w : World) (b n c p : Nat) (a : Option Addr) (bs : List Int) (e : Int) (h : Rd w b a n c bs p e) :
    Calls Tryd.prog 96 #[.pointer (some ⟨b, 0, none⟩)] w fun en w' => en = .returned (.int .i64 (rInt bs p e).1) ∧ RdR w w' b a n c bs (rInt bs p e).2 := by
  refine c96 _ ?_
  unfold d96
  refine (uintR_c w b n c p a bs e h).mono ?_
  rintro en w' ⟨rfl, hw⟩
  have hr : (rUpto bs 18446744073709551615 p e).1 < 18446744073709551616 := by
    have := (rUpto_le (bs := bs) (e := e) (most := 18446744073709551615) h.B (by rw [h.len]; exact h.le)).2.2
    omega
  refine ⟨_, rfl, by omega, ?_, hw⟩
  rw [zag hr]
  rfl
theorem rawR_c (w : World) (b n c p : Nat) (a : Option Addr) (bs : List Int) (e : Int) (k : Int) (h : Rd w b a n c bs p e) :
    Calls Tryd.prog 44 #[.pointer (some ⟨b, 0, none⟩), .int .i64 k] w fun en w' => ∃ xa xc, en = .returned (.slice xa (rRaw bs k p e).1.length xc) ∧ RdR w w' b a n c bs (rRaw bs k p e).2 ∧
      w'.ownsRow w.heap.size 5 1 (.slice xa (rRaw bs k p e).1.length xc) (rRaw bs k p e).1.length (u8 (rRaw bs k p e).1) := by
  refine c44 _ _ ?_
  unfold d44
  have hn := h.len
  have hN := h.N
  have hple := h.le
  unfold rRaw
  refine h.err ?_
  by_cases he : e = 0
  rotate_left
  · rw [bif_nneg he, if_pos he]
    exact ⟨none, 0, rfl, h.refl, own_nil _ _ _ _⟩
  subst he
  rw [bif_npos rfl, if_neg (show ¬ (0 : Int) ≠ 0 by omega)]
  by_cases h0 : k < 0
  · rw [bif_pos h0, if_pos h0]
    exact h.setErr _ fun w' hw => ⟨none, 0, rfl, hw, own_nil _ _ _ _⟩
  rw [bif_neg h0, if_neg h0]
  rintro w6 rfl
  have ht := (Tch.refl [] w).drew
  have hs0 : w.drew.heap.size = w.heap.size := rfl
  replace h := h.quiet ht
  generalize w.drew = w6 at *
  refine h.slice (h.at ?_)
  rw [wrap_i64 (n := (n : Int) - (p : Int)) (by omega) (by omega)]
  by_cases hs : (n : Int) - p < k
  · rw [bif_pos hs, if_pos (by omega)]
    exact h.setErr _ fun w' hw => ⟨none, 0, rfl, RdR.pre ht hw, own_nil _ _ _ _⟩
  rw [bif_neg hs, if_neg (by omega)]
  obtain ⟨q, rfl⟩ := Int.eq_ofNat_of_zero_le (show 0 ≤ k by omega)
  refine h.at ?_
  rw [wrap_i64 (n := (p : Int) + (q : Int)) (by omega) (by omega)]
  refine h.setAt (q := p + q) (by omega) (by omega) fun w16 hw => ?_
  rintro w17 rfl
  replace hw := hw.post (Tch.refl [] w16).drew
  generalize w16.drew = w17 at *
  obtain ⟨hR, hT⟩ := hw
  refine hR.slice (hR.at (hR.at ?_))
  simp only
  rw [show ((p + q : Nat) : Int) - (q : Int) = p by omega, wrap_i64 (n := (p : Int)) (by omega) (by omega), Int.toNat_natCast, Int.toNat_natCast]
  have hcap := hR.row.cap
  refine ⟨by omega, by omega, by omega, by omega, ?_⟩
  have hc := hR.row.cut (l := p) (hh := p + q) (by omega) (by omega)
  rw [show p + q - p = q by omega] at hc ⊢
  have hl : ((bs.drop p).take q).length = q := by rw [List.length_take, List.length_drop]; omega
  refine (clone_c w17 ((bs.drop p).take q) _ q _ hc (by omega)).mono ?_
  rintro en w25 ⟨xa, xc, rfl, hown, ht25⟩
  refine ⟨_, _, _, rfl, ?_⟩
  rw [Int.toNat_natCast, hl]
  refine ⟨xa, xc, rfl, RdR.pre ht (RdR.post ⟨hR, hT⟩ ht25), own_base hown ?_⟩
  have := hT.size
  omega
theorem endR_c (w : World) (b n c p : Nat) (a : Option Addr) (bs : List Int) (e : Int) (h : Rd w b a n c bs p e) :
    Calls Tryd.prog 50 #[.pointer (some ⟨b, 0, none⟩)] w fun en w' => en = .returned (.int .i64 (rEnd bs p e)) ∧ Tch [] w w' := by
  refine c50 _ ?_
  unfold d50 rEnd
  have hn := h.len
  rintro w1 rfl
  have ht := (Tch.refl [] w).drew
  replace h := h.quiet ht
  refine h.err ?_
  by_cases he : e = 0
  · rw [bif_pos he]
    refine h.at (h.slice ?_)
    by_cases hp : p < n
    · rw [bif_pos (by omega), if_pos ⟨he, by omega⟩]
      exact ⟨rfl, ht⟩
    · rw [bif_neg (by omega), if_neg (by omega)]
      exact h.err ⟨rfl, ht⟩
  · rw [bif_neg he, if_neg (fun h => he h.1)]
    exact h.err ⟨rfl, ht⟩
end Go.Proofs.YtjchneebdlncfaaDoor.Lib
namespace Go.Proofs.YtjchneebdlncfaaDoor.Lib
open Go Den Fn
open Go.RowKit (Below)
open Classical
set_option maxRecDepth 8000
set_option maxHeartbeats 2000000
def fourS (x : Int) : List Int := [IntKind.wrap .u8 x, IntKind.wrap .u8 (shR .u32 x 8), IntKind.wrap .u8 (shR .u32 x 16), IntKind.wrap .u8 (shR .u32 x 24)]
theorem fourS_bytes (x : Int) : Bytes (fourS x) := fun y hy => by
  simp only [fourS, List.mem_cons, List.not_mem_nil, or_false] at hy
  rcases hy with rfl | rfl | rfl | rfl <;> exact wrap_u8_byte _
def headS (kind : Int) (n : Nat) : List Int := [kind] ++ fourS (n : Int)
def sealS (kind : Int) (l : List Int) : List Int := if 16777216 < l.length then [] else headS kind l.length ++ fourS (crc (headS kind l.length)) ++ l ++ fourS (crc l)
/-- Bytes that a call hands back, its caller's own. -/
def OwnO (w : World) (r : List Int) (en : Ending) (w' : World) : Prop := ∃ a c, en = .returned (.slice a r.length c) ∧ w'.ownsRow w.heap.size 5 1 (.slice a r.length c) r.length (u8 r) ∧ Tch [] w w'
theorem OwnO.none {w w' : World} (ht : Tch [] w w') : OwnO w [] (.returned (.slice none 0 0)) w' := ⟨_, 0, rfl, own_nil _ _ _ _, ht⟩
theorem u8T : slT Tryd.prog 22 5 1 1 = true := by kernel_rfl
theorem zcU8 : zc Tryd.prog 5 = [.int .u8 0] := by kernel_rfl
/-- Rows of one's own, since a world; what is touched on the way lies beyond. -/
theorem since_own {w u u' : World} {B e size : Nat} {a : Option Addr} {n c : Nat} {xs : List Value} (ht : Tch [] w u) (ho : u.ownsRow B e size (.slice a n c) n xs) (hB : w.heap.size ≤ B) (h : Tch (rowL a) u u') : Tch [] w u' := ht.trans h fun k hk => .inr (by
  rw [mem_rowL] at hk
  obtain ⟨z, hz, rfl⟩ := hk
  have := (own_ge ho z hz).1
  omega)
theorem far_row {w u u' : World} {B e size : Nat} {a : Option Addr} {n c : Nat} {xs : List Value} {la : Option Addr} {ln lc : Nat} {l : List Int} (hl : ln = 0 ∨ ∀ x, la = some x → x.block < w.heap.size) (hr : RSl u 1 la ln lc (u8 l)) (ho : u.ownsRow B e size (.slice a n c) n xs) (hB : w.heap.size ≤ B) (h : Tch (rowL a) u u') : RSl u' 1 la ln lc (u8 l) :=
  hr.tch0 h (hl.imp id fun hl z hz hm => by
    rw [mem_rowL] at hm
    obtain ⟨y, hy, hyb⟩ := hm
    have := (own_ge ho y hy).1
    have := hl z hz
    omega)
theorem Tab.since {w u : World} (h : Tab w) (ht : Tch [] w u) : Tab u := h.tch ht (by simp)
theorem four_c (w : World) (B : Nat) (a : Option Addr) (n c : Nat) (xs : List Int) (x : Int) (ho : w.ownsRow B 5 1 (.slice a n c) n (u8 xs)) (hB : B ≤ w.heap.size) (hn : n ≤ 17000000) :
    Calls Tryd.prog 69 #[.slice a n c, .int .u32 x] w fun en w' => ∃ a' c', en = .returned (.slice a' (n + 4) c') ∧ w'.ownsRow B 5 1 (.slice a' (n + 4) c') (n + 4) (u8 (xs ++ fourS x)) ∧ Tch (rowL a) w w' := by
  refine c69 _ _ _ _ ?_
  unfold d69
  refine ⟨by omega, by omega, by omega, u8 (fourS x), by rw [zcU8]; rfl, ?_⟩
  rintro w3 rfl
  have hr : RSl (w.alloc (.cells (u8 (fourS x)).toArray 5)) 1 (some ⟨w.heap.size, 0, none⟩) 4 4 (u8 (fourS x)) := (Blk.fresh w 5 rfl).rsl (by simp [fourS]) ones_ints
  have t3 := (Tch.refl [] w).alloc (.cells (u8 (fourS x)).toArray 5)
  refine app_at u8T (own_up ho t3 (fun _ _ h => by cases h)) hr (by have := t3.size; omega) (by omega) (by omega) fun a' c' w5 ho' t5 _ => ?_
  refine ⟨a', c', rfl, ?_, (t3.weaken (by simp)).trans t5 fun k hk => .inl hk⟩
  rw [show u8 (xs ++ fourS x) = u8 xs ++ u8 (fourS x) by simp]
  exact ho'
theorem seal_c (w : World) (kind : Int) (hk : 0 ≤ kind ∧ kind < 256) (la : Option Addr) (n lc : Nat) (l : List Int) (hr : RSl w 1 la n lc (u8 l)) (hB : Bytes l) (hN : n ≤ 140737488355328) (hT : Tab w) :
    Calls Tryd.prog 33 #[.int .u8 kind, .slice la n lc] w (OwnO w (sealS kind l)) := by
  have hn := u8_len hr
  refine c33 _ _ _ _ ?_
  unfold d33
  unfold sealS
  by_cases hbig : 16777216 < n
  · rw [bif_pos (by omega), if_pos (by omega)]
    exact OwnO.none (Tch.refl _ _)
  rw [bif_neg (by omega), if_neg (by omega)]
  have hlow := hr.low (by omega)
  refine ⟨u8 [kind], by rw [zcU8]; rfl, ?_⟩
  rintro w3 rfl
  have o3 : (w.alloc (.cells (u8 [kind]).toArray 5)).ownsRow w.heap.size 5 1 (.slice (some ⟨w.heap.size, 0, none⟩) 1 1) 1 (u8 [kind]) := (BlkT.new w (u8 [kind]).toArray 5).own (Nat.le_refl _) rfl (by omega)
  have t3 := (Tch.refl [] w).alloc (.cells (u8 [kind]).toArray 5)
  generalize w.alloc (.cells (u8 [kind]).toArray 5) = w3 at *
  have s3 := t3.size
  rw [wrap_u32 (by omega) (by omega)]
  refine (four_c w3 w.heap.size _ 1 1 [kind] (n : Int) o3 s3 (by omega)).mono ?_
  rintro en w5 ⟨a5, c5, rfl, o5, t5⟩
  refine ⟨_, _, _, rfl, ?_⟩
  have q5 := since_own t3 o3 (Nat.le_refl _) t5
  have hr5 := far_row hlow (hr.tch t3 (fun _ _ h => by cases h)) o3 (Nat.le_refl _) t5
  have hhd : headS kind l.length = [kind] ++ fourS (n : Int) := by unfold headS; rw [hn]
  have hhB : Bytes (headS kind l.length) := by
    rw [hhd]
    intro y hy
    rcases List.mem_append.1 hy with hy | hy
    · rw [List.mem_singleton.1 hy]; exact hk
    · exact fourS_bytes _ y hy
  rw [← hhd] at o5
  refine (sum_c w5 (headS kind l.length) a5 _ c5 (own_rsl o5 ones_ints) hhB (by omega) (hT.since q5)).mono ?_
  rintro en w8 ⟨rfl, hw⟩
  rw [hw]
  clear hw
  refine ⟨_, rfl, ?_⟩
  refine (four_c w5 w.heap.size a5 _ c5 (headS kind l.length) (crc (headS kind l.length)) o5 q5.size (by omega)).mono ?_
  rintro en w11 ⟨a11, c11, rfl, o11, t11⟩
  refine ⟨_, _, _, rfl, ?_⟩
  have q11 := since_own q5 o5 (Nat.le_refl _) t11
  have hr11 := far_row hlow hr5 o5 (Nat.le_refl _) t11
  refine app_at u8T o11 hr11 q11.size (by omega) (by omega) fun a14 c14 w14 o14 t14 _ => ?_
  have q14 := since_own q11 o11 (Nat.le_refl _) t14
  have hr14 := far_row hlow hr11 o11 (Nat.le_refl _) t14
  refine (sum_c w14 l la n lc hr14 hB hN (hT.since q14)).mono ?_
  rintro en w17 ⟨rfl, hw⟩
  rw [hw]
  clear hw
  refine ⟨_, rfl, ?_⟩
  rw [show u8 (headS kind l.length ++ fourS (crc (headS kind l.length))) ++ u8 l = u8 (headS kind l.length ++ fourS (crc (headS kind l.length)) ++ l) by simp] at o14
  refine (four_c w14 w.heap.size a14 _ c14 _ (crc l) o14 q14.size (by omega)).mono ?_
  rintro en w20 ⟨a20, c20, rfl, o20, t20⟩
  refine ⟨_, _, _, rfl, ?_⟩
  have q20 := since_own q14 o14 (Nat.le_refl _) t20
  have hlen : 1 + 4 + 4 + n + 4 = (headS kind l.length ++ fourS (crc (headS kind l.length)) ++ l ++ fourS (crc l)).length := by simp [headS, fourS, hn]; omega
  rw [hlen] at o20 ⊢
  exact ⟨a20, c20, rfl, o20, q20⟩
end Go.Proofs.YtjchneebdlncfaaDoor.Lib
set_option maxRecDepth 100000
namespace Go.Proofs.YtjchneebdlncfaaDoor.Fn
open Go Den
/-- prelude/merge.New -/
def s54 : S := (.seq (.ops [⟨(some 4), (.mv (.const (.pointer none))), .ptr, none⟩,
  ⟨(some 5), (.mv (.const (.int .i64 0))), (.int .i64), none⟩] [0, 1])
 (.join [] [0, 1]
 (.seq (.ops [⟨(some 6), (.mv (.tmp 0)), (.int .i64), none⟩,
  ⟨(some 7), (.bin .lss (.tmp 6) (.const (.int .i64 1))), .bool, none⟩,
  ⟨(some 8), (.mv (.tmp 7)), .bool, none⟩,
  ⟨(some 9), (.mv (.tmp 0)), (.int .i64), (some (8, false))⟩,
  ⟨(some 10), (.bin .gtr (.tmp 9) (.const (.int .i64 16))), .bool, (some (8, false))⟩,
  ⟨(some 11), (.pick (.tmp 8) (.const (.bool true)) (.tmp 10)), .bool, none⟩] [11, 1, 0])
 (.cond (.tmp 11)
 (.seq (.ops [⟨(some 4), (.mv (.const (.pointer none))), .ptr, none⟩,
  ⟨(some 5), (.mv (.const (.int .i64 260))), (.int .i64), none⟩] [4, 5])
 .ret)
 .skip))
 (.seq (.seq (.ops [⟨(some 12), (.mv (.tmp 1)), (.int .i64), none⟩,
  ⟨(some 13), (.call 64 [(.tmp 12)] [.bool]), .bool, none⟩,
  ⟨(some 14), (.un .not (.tmp 13)), .bool, none⟩] [14, 0, 1])
 (.cond (.tmp 14)
 (.seq (.ops [⟨(some 4), (.mv (.const (.pointer none))), .ptr, none⟩,
  ⟨(some 5), (.mv (.const (.int .i64 262))), (.int .i64), none⟩] [4, 5])
 .ret)
 .skip))
 (.seq (.ops [⟨(some 15), (.mv (.tmp 0)), (.int .i64), none⟩,
  ⟨(some 16), (.mv (.tmp 1)), (.int .i64), none⟩,
  ⟨(some 17), (.mkM 155), .mp, none⟩,
  ⟨(some 18), (.bld 157 (.fields [(0, 1), (1, 1), (2, 1), (3, 1)]) [(0, (.tmp 15)), (1, (.tmp 16)), (3, (.tmp 17))]), .agg, none⟩,
  ⟨(some 19), (.box 157 (.tmp 18)), .ptr, none⟩,
  ⟨(some 4), (.mv (.tmp 19)), .ptr, none⟩,
  ⟨(some 5), (.mv (.const (.int .i64 0))), (.int .i64), none⟩] [4, 5])
 .ret))))
def r54 : List Res := [.t 4, .t 5]
theorem tr54 : trS Tryd.prog [] 20 (Tryd.f54.body.getD .skip) s54 = some s54 := by kernel_rfl
theorem den54 (args : List Value) (w : World) (R : Ending → World → Prop) (hn : args.length ≤ 20) (h : denS Tryd.prog s54 (argsEnv 0 args) w (endK r54 R)) : Calls Tryd.prog 54 args.toArray w R :=
  calls_of_den (pn := []) (fn := Tryd.f54) (c := Tryd.f54.body.getD .skip) Tryd.func54 (by kernel_rfl) (by rw [Tryd.ntmps54]; exact hn) (by rw [Tryd.ntmps54]; exact tr54) (by kernel_rfl) h
def d54 (inputs0 : Int) (first1 : Int) (w : World) (R : Ending → World → Prop) : Prop :=
 ∃ J2 : World → Prop,
 ((bif (decide (inputs0 < 1)) then
 (R (.returned (.tuple #[(.pointer none), (.int .i64 260)])) w)
 else
 ((bif (decide (16 < inputs0)) then
 (R (.returned (.tuple #[(.pointer none), (.int .i64 260)])) w)
 else
 (J2  w))))) ∧
 (∀ (w3 : World), J2  w3 →
 Calls Tryd.prog 64 #[(.int .i64 first1)] w3 fun e4 w5 => ∃ x6 : Bool, e4 = .returned (.bool x6) ∧
 (bif (!x6) then
 (R (.returned (.tuple #[(.pointer none), (.int .i64 262)])) w5)
 else
 (∀ w7 : World, w7 = World.alloc w5 (.map #[] 0) →
 ∃ cs8, fillL (.fields [(0, 1), (1, 1), (2, 1), (3, 1)]) (zc Tryd.prog 157) [(0, (.int .i64 inputs0)), (1, (.int .i64 first1)), (3, (.map (some (World.heap w5 |>.size))))] = some cs8 ∧
 ∀ w9 : World, w9 = World.alloc w7 (.cells (List.toArray cs8) 157) →
 R (.returned (.tuple #[(.pointer (some ⟨World.heap w7 |>.size, 0, none⟩)), (.int .i64 0)])) w9)))
theorem e54 (inputs0 : Int) (first1 : Int) (w : World) (R : Ending → World → Prop) : denS Tryd.prog s54 (argsEnv 0 [(.int .i64 inputs0), (.int .i64 first1)]) w (endK r54 R) = d54 inputs0 first1 w R := by kernel_rfl
theorem c54 (inputs0 : Int) (first1 : Int) {w : World} {R : Ending → World → Prop} (h : d54 inputs0 first1 w R) : Calls Tryd.prog 54 #[(.int .i64 inputs0), (.int .i64 first1)] w R :=
  den54 [(.int .i64 inputs0), (.int .i64 first1)] w R (by simp) ((e54 inputs0 first1 w R).symm ▸ h)

/-- prelude/merge.epoch -/
def s64 : S := (.seq (.ops [⟨(some 2), (.mv (.const (.bool false))), .bool, none⟩] [0])
 (.seq (.ops [⟨(some 3), (.mv (.tmp 0)), (.int .i64), none⟩,
  ⟨(some 4), (.bin .geq (.tmp 3) (.const (.int .i64 1))), .bool, none⟩,
  ⟨(some 5), (.mv (.tmp 4)), .bool, none⟩,
  ⟨(some 6), (.mv (.tmp 0)), (.int .i64), (some (5, true))⟩,
  ⟨(some 7), (.bin .leq (.tmp 6) (.const (.int .i64 1099511627776))), .bool, (some (5, true))⟩,
  ⟨(some 8), (.pick (.tmp 5) (.tmp 7) (.const (.bool false))), .bool, none⟩,
  ⟨(some 2), (.mv (.tmp 8)), .bool, none⟩] [2])
 .ret))
def r64 : List Res := [.t 2]
theorem tr64 : trS Tryd.prog [] 9 (Tryd.f64.body.getD .skip) s64 = some s64 := by kernel_rfl
theorem den64 (args : List Value) (w : World) (R : Ending → World → Prop) (hn : args.length ≤ 9) (h : denS Tryd.prog s64 (argsEnv 0 args) w (endK r64 R)) : Calls Tryd.prog 64 args.toArray w R :=
  calls_of_den (pn := []) (fn := Tryd.f64) (c := Tryd.f64.body.getD .skip) Tryd.func64 (by kernel_rfl) (by rw [Tryd.ntmps64]; exact hn) (by rw [Tryd.ntmps64]; exact tr64) (by kernel_rfl) h
def d64 (n0 : Int) (w : World) (R : Ending → World → Prop) : Prop :=
 (bif (decide (1 ≤ n0)) then
 (R (.returned (.bool (decide (n0 ≤ 1099511627776)))) w)
 else
 (R (.returned (.bool false)) w))
theorem e64 (n0 : Int) (w : World) (R : Ending → World → Prop) : denS Tryd.prog s64 (argsEnv 0 [(.int .i64 n0)]) w (endK r64 R) = d64 n0 w R := by kernel_rfl
theorem c64 (n0 : Int) {w : World} {R : Ending → World → Prop} (h : d64 n0 w R) : Calls Tryd.prog 64 #[(.int .i64 n0)] w R :=
  den64 [(.int .i64 n0)] w R (by simp) ((e64 n0 w R).symm ▸ h)

/-- (*prelude/merge.Merger).Epoch -/
def s58 : S := (.seq (.ops [⟨(some 2), (.mv (.const (.int .i64 0))), (.int .i64), none⟩] [0])
 (.seq (.ops [⟨(some 3), (.mv (.tmp 0)), .ptr, none⟩,
  ⟨(some 4), (.nc (.tmp 3)), .any, none⟩,
  ⟨(some 5), (.fa 1 (.tmp 4)), .ptr, none⟩,
  ⟨(some 6), (.ld1 (.tmp 5)), (.int .i64), none⟩,
  ⟨(some 2), (.mv (.tmp 6)), (.int .i64), none⟩] [2])
 .ret))
def r58 : List Res := [.t 2]
theorem tr58 : trS Tryd.prog [] 7 (Tryd.f58.body.getD .skip) s58 = some s58 := by kernel_rfl
theorem den58 (args : List Value) (w : World) (R : Ending → World → Prop) (hn : args.length ≤ 7) (h : denS Tryd.prog s58 (argsEnv 0 args) w (endK r58 R)) : Calls Tryd.prog 58 args.toArray w R :=
  calls_of_den (pn := []) (fn := Tryd.f58) (c := Tryd.f58.body.getD .skip) Tryd.func58 (by kernel_rfl) (by rw [Tryd.ntmps58]; exact hn) (by rw [Tryd.ntmps58]; exact tr58) (by kernel_rfl) h
def d58 (m0 : Option Addr) (w : World) (R : Ending → World → Prop) : Prop :=
 optK m0 fun a1 =>
 ∃ x2 : Int, World.cell? w (Addr.add a1 1) = some (.int .i64 x2) ∧
 R (.returned (.int .i64 x2)) w
theorem e58 (m0 : Option Addr) (w : World) (R : Ending → World → Prop) : denS Tryd.prog s58 (argsEnv 0 [(.pointer m0)]) w (endK r58 R) = d58 m0 w R := by kernel_rfl
theorem c58 (m0 : Option Addr) {w : World} {R : Ending → World → Prop} (h : d58 m0 w R) : Calls Tryd.prog 58 #[(.pointer m0)] w R :=
  den58 [(.pointer m0)] w R (by simp) ((e58 m0 w R).symm ▸ h)

/-- (*prelude/merge.Merger).Take -/
def s56 : S := (.seq (.ops [⟨(some 3), (.box 37 (.tmp 1)), .ptr, none⟩,
  ⟨(some 4), (.mv (.const (.int .i64 0))), (.int .i64), none⟩] [3, 0])
 (.join [] [0, 3]
 (.seq (.draw (.take 0 ⟨(some 10), (.fa 0 (.tmp 3)), .ptr, none⟩
  (.take 1 ⟨(some 11), (.ld1 (.tmp 10)), (.int .i64), none⟩
  (.take 2 ⟨(some 12), (.bin .lss (.tmp 11) (.const (.int .i64 0))), .bool, none⟩
  (.take 3 ⟨(some 13), (.mv (.tmp 12)), .bool, none⟩
  (.take 4 ⟨(some 14), (.fa 0 (.tmp 3)), .ptr, (some (13, false))⟩
  (.take 5 ⟨(some 15), (.ld1 (.tmp 14)), (.int .i64), (some (13, false))⟩
  (.take 6 ⟨(some 16), (.mv (.tmp 0)), .ptr, (some (13, false))⟩
  (.take 7 ⟨(some 17), (.nc (.tmp 16)), .any, (some (13, false))⟩
  (.take 8 ⟨(some 18), (.fa 0 (.tmp 17)), .ptr, (some (13, false))⟩
  (.take 9 ⟨(some 19), (.ld1 (.tmp 18)), (.int .i64), (some (13, false))⟩
  (.take 10 ⟨(some 20), (.bin .geq (.tmp 15) (.tmp 19)), .bool, (some (13, false))⟩
  (.take 11 ⟨(some 21), (.pick (.tmp 13) (.const (.bool true)) (.tmp 20)), .bool, none⟩
  .done)))))))))))) [21, 3, 0])
 (.cond (.tmp 21)
 (.seq (.ops [⟨(some 4), (.mv (.const (.int .i64 261))), (.int .i64), none⟩] [4])
 .ret)
 .skip))
 (.join [] [0, 3]
 (.seq (.draw (.take 0 ⟨(some 22), (.fa 1 (.tmp 3)), .ptr, none⟩
  (.take 1 ⟨(some 23), (.ld1 (.tmp 22)), (.int .i64), none⟩
  (.go 2 ⟨(some 24), (.call 64 [(.tmp 23)] [.bool]), .bool, none⟩ []
  (.take 3 ⟨(some 25), (.un .not (.tmp 24)), .bool, none⟩
  (.take 4 ⟨(some 26), (.mv (.tmp 25)), .bool, none⟩
  (.take 5 ⟨(some 27), (.fa 1 (.tmp 3)), .ptr, (some (26, false))⟩
  (.take 6 ⟨(some 28), (.ld1 (.tmp 27)), (.int .i64), (some (26, false))⟩
  (.take 7 ⟨(some 29), (.mv (.tmp 0)), .ptr, (some (26, false))⟩
  (.take 8 ⟨(some 30), (.nc (.tmp 29)), .any, (some (26, false))⟩
  (.take 9 ⟨(some 31), (.fa 1 (.tmp 30)), .ptr, (some (26, false))⟩
  (.take 10 ⟨(some 32), (.ld1 (.tmp 31)), (.int .i64), (some (26, false))⟩
  (.take 11 ⟨(some 33), (.bin .add (.tmp 32) (.const (.int .i64 64))), (.int .i64), (some (26, false))⟩
  (.take 12 ⟨(some 34), (.bin .geq (.tmp 28) (.tmp 33)), .bool, (some (26, false))⟩
  (.take 13 ⟨(some 35), (.pick (.tmp 26) (.const (.bool true)) (.tmp 34)), .bool, none⟩
  .done)))))))))))))) [35, 3, 0])
 (.cond (.tmp 35)
 (.seq (.ops [⟨(some 4), (.mv (.const (.int .i64 262))), (.int .i64), none⟩] [4])
 .ret)
 .skip))
 (.seq (.seq (.ops [⟨(some 37), (.fa 2 (.tmp 3)), .ptr, none⟩,
  ⟨(some 38), (.ld1 (.tmp 37)), .sl, none⟩,
  ⟨(some 39), (.call 29 [(.tmp 38)] [.sl, (.int .i64)]), .any, none⟩,
  ⟨(some 36), (.mv (.tmp 39)), .any, none⟩,
  ⟨(some 40), (.ext 0 (.tmp 36)), .sl, none⟩,
  ⟨(some 41), (.ext 1 (.tmp 36)), (.int .i64), none⟩,
  ⟨(some 5), (.mv (.tmp 40)), .sl, none⟩,
  ⟨(some 6), (.mv (.tmp 41)), (.int .i64), none⟩] [6, 3, 0])
 (.seq (.ops [⟨(some 42), (.mv (.tmp 6)), (.int .i64), none⟩,
  ⟨(some 43), (.bin .neq (.tmp 42) (.const (.int .i64 0))), .bool, none⟩] [43, 6, 3, 0])
 (.cond (.tmp 43)
 (.seq (.ops [⟨(some 44), (.mv (.tmp 6)), (.int .i64), none⟩,
  ⟨(some 4), (.mv (.tmp 44)), (.int .i64), none⟩] [4])
 .ret)
 .skip)))
 (.seq (.seq (.draw (.take 0 ⟨(some 45), (.fa 1 (.tmp 3)), .ptr, none⟩
  (.take 1 ⟨(some 46), (.ld1 (.tmp 45)), (.int .i64), none⟩
  (.take 2 ⟨(some 47), (.mv (.tmp 0)), .ptr, none⟩
  (.take 3 ⟨(some 48), (.nc (.tmp 47)), .any, none⟩
  (.take 4 ⟨(some 49), (.fa 1 (.tmp 48)), .ptr, none⟩
  (.take 5 ⟨(some 50), (.ld1 (.tmp 49)), (.int .i64), none⟩
  (.take 6 ⟨(some 51), (.bin .lss (.tmp 46) (.tmp 50)), .bool, none⟩
  .done))))))) [51, 3, 0])
 (.cond (.tmp 51)
 (.seq (.ops [⟨(some 4), (.mv (.const (.int .i64 0))), (.int .i64), none⟩] [4])
 .ret)
 .skip))
 (.seq (.ops [⟨(some 52), (.fa 0 (.tmp 3)), .ptr, none⟩,
  ⟨(some 53), (.ld1 (.tmp 52)), (.int .i64), none⟩,
  ⟨(some 54), (.fa 1 (.tmp 3)), .ptr, none⟩,
  ⟨(some 55), (.ld1 (.tmp 54)), (.int .i64), none⟩,
  ⟨(some 56), (.bld 59 (.fields [(0, 1), (1, 1)]) [(0, (.tmp 53)), (1, (.tmp 55))]), .agg, none⟩,
  ⟨(some 7), (.alloc 59), .ptr, none⟩,
  ⟨none, (.stN 2 (.tmp 7) (.tmp 56)), .any, none⟩] [0, 7, 3])
 (.seq (.seq (.draw (.take 0 ⟨(some 58), (.mv (.tmp 0)), .ptr, none⟩
  (.take 1 ⟨(some 59), (.nc (.tmp 58)), .any, none⟩
  (.take 2 ⟨(some 60), (.fa 3 (.tmp 59)), .ptr, none⟩
  (.take 3 ⟨(some 61), (.ld1 (.tmp 60)), .mp, none⟩
  (.take 4 ⟨(some 62), (.ldN 2 (.tmp 7)), .agg, none⟩
  (.take 5 ⟨(some 63), (.look 155 (.tmp 61) (.tmp 62) true), .any, none⟩
  (.take 6 ⟨(some 57), (.mv (.tmp 63)), .any, none⟩
  (.take 7 ⟨(some 64), (.ext 0 (.tmp 57)), .sl, none⟩
  (.take 8 ⟨(some 65), (.ext 1 (.tmp 57)), .bool, none⟩
  (.take 9 ⟨(some 8), (.mv (.tmp 64)), .sl, none⟩
  (.take 10 ⟨(some 9), (.mv (.tmp 65)), .bool, none⟩
  .done))))))))))) [9, 8, 3, 0, 7])
 (.seq (.ops [⟨(some 66), (.mv (.tmp 9)), .bool, none⟩] [66, 8, 3, 0, 7])
 (.cond (.tmp 66)
 (.seq (.seq (.ops [⟨(some 67), (.mv (.tmp 8)), .sl, none⟩,
  ⟨(some 68), (.fa 2 (.tmp 3)), .ptr, none⟩,
  ⟨(some 69), (.ld1 (.tmp 68)), .sl, none⟩,
  ⟨(some 70), (.call 87 [(.tmp 67), (.tmp 69)] [.bool]), .bool, none⟩,
  ⟨(some 71), (.un .not (.tmp 70)), .bool, none⟩] [71])
 (.cond (.tmp 71)
 (.seq (.ops [⟨(some 4), (.mv (.const (.int .i64 263))), (.int .i64), none⟩] [4])
 .ret)
 .skip))
 (.seq (.ops [⟨(some 4), (.mv (.const (.int .i64 0))), (.int .i64), none⟩] [4])
 .ret))
 .skip)))
 (.seq (.draw (.take 0 ⟨(some 72), (.mv (.tmp 0)), .ptr, none⟩
  (.take 1 ⟨(some 73), (.nc (.tmp 72)), .any, none⟩
  (.take 2 ⟨(some 74), (.fa 3 (.tmp 73)), .ptr, none⟩
  (.take 3 ⟨(some 75), (.ld1 (.tmp 74)), .mp, none⟩
  (.take 4 ⟨(some 76), (.ldN 2 (.tmp 7)), .agg, none⟩
  (.take 5 ⟨(some 77), (.fa 2 (.tmp 3)), .ptr, none⟩
  (.take 6 ⟨(some 78), (.ld1 (.tmp 77)), .sl, none⟩
  (.go 7 ⟨(some 79), (.call 88 [(.tmp 78)] [.sl]), .sl, none⟩ [(4, ⟨(some 76), (.ldN 2 (.tmp 7)), .agg, none⟩), (3, ⟨(some 75), (.ld1 (.tmp 74)), .mp, none⟩)]
  (.go 8 ⟨none, (.upd 155 (.tmp 75) (.tmp 76) (.tmp 79)), .any, none⟩ []
  .done))))))))) [0, 3])
 (.seq (.draw (.take 0 ⟨(some 80), (.mv (.tmp 0)), .ptr, none⟩
  (.take 1 ⟨(some 81), (.mv (.tmp 0)), .ptr, none⟩
  (.take 2 ⟨(some 82), (.nc (.tmp 81)), .any, none⟩
  (.take 3 ⟨(some 83), (.fa 2 (.tmp 82)), .ptr, none⟩
  (.take 4 ⟨(some 84), (.ld1 (.tmp 83)), (.int .i64), none⟩
  (.take 5 ⟨(some 85), (.fa 1 (.tmp 3)), .ptr, none⟩
  (.take 6 ⟨(some 86), (.ld1 (.tmp 85)), (.int .i64), none⟩
  (.go 7 ⟨(some 87), (.rv (.maxB #[3, 3] 3) [(.tmp 84), (.tmp 86)]), (.int .i64), none⟩ []
  (.take 8 ⟨(some 88), (.nc (.tmp 80)), .any, none⟩
  (.take 9 ⟨(some 89), (.fa 2 (.tmp 88)), .ptr, none⟩
  (.go 10 ⟨none, (.st1 (.tmp 89) (.tmp 87)), .any, none⟩ []
  .done))))))))))) [])
 (.seq (.ops [⟨(some 4), (.mv (.const (.int .i64 0))), (.int .i64), none⟩] [4])
 .ret))))))))))
def r56 : List Res := [.t 4]
theorem tr56 : trS Tryd.prog [] 90 (Tryd.f56.body.getD .skip) s56 = some s56 := by kernel_rfl
theorem den56 (args : List Value) (w : World) (R : Ending → World → Prop) (hn : args.length ≤ 90) (h : denS Tryd.prog s56 (argsEnv 0 args) w (endK r56 R)) : Calls Tryd.prog 56 args.toArray w R :=
  calls_of_den (pn := []) (fn := Tryd.f56) (c := Tryd.f56.body.getD .skip) Tryd.func56 (by kernel_rfl) (by rw [Tryd.ntmps56]; exact hn) (by rw [Tryd.ntmps56]; exact tr56) (by kernel_rfl) h
def d56 (m0 : Option Addr) (p1 : Array Value) (w : World) (R : Ending → World → Prop) : Prop :=
 ∀ w2 : World, w2 = World.alloc w (.cells p1 37) →
 ∃ J3 : World → Prop,
 (∀ w4 : World, w4 = World.drew w2 →
 ∃ x5 : Int, World.cell? w4 (Addr.add ⟨World.heap w |>.size, 0, none⟩ 0) = some (.int .i64 x5) ∧
 (bif (decide (x5 < 0)) then
 (R (.returned (.int .i64 261)) w4)
 else
 (∃ x6 : Int, World.cell? w4 (Addr.add ⟨World.heap w |>.size, 0, none⟩ 0) = some (.int .i64 x6) ∧
 optK m0 fun a7 =>
 ∃ x8 : Int, World.cell? w4 (Addr.add a7 0) = some (.int .i64 x8) ∧
 (bif (decide (x8 ≤ x6)) then
 (R (.returned (.int .i64 261)) w4)
 else
 (J3  w4))))) ∧
 (∀ (w9 : World), J3  w9 →
 ∃ J10 : World → Prop,
 (∀ w11 : World, w11 = World.drew w9 →
 ∃ x12 : Int, World.cell? w11 (Addr.add ⟨World.heap w |>.size, 0, none⟩ 1) = some (.int .i64 x12) ∧
 Calls Tryd.prog 64 #[(.int .i64 x12)] w11 fun e13 w14 => ∃ x15 : Bool, e13 = .returned (.bool x15) ∧
 (bif (!x15) then
 (R (.returned (.int .i64 262)) w14)
 else
 (∃ x16 : Int, World.cell? w14 (Addr.add ⟨World.heap w |>.size, 0, none⟩ 1) = some (.int .i64 x16) ∧
 optK m0 fun a17 =>
 ∃ x18 : Int, World.cell? w14 (Addr.add a17 1) = some (.int .i64 x18) ∧
 (bif (decide ((IntKind.wrap .i64 (x18 + 64)) ≤ x16)) then
 (R (.returned (.int .i64 262)) w14)
 else
 (J10  w14))))) ∧
 (∀ (w19 : World), J10  w19 →
 ∃ (x20 : Option Addr) (x20n : Nat) (x20c : Nat), World.cell? w19 (Addr.add ⟨World.heap w |>.size, 0, none⟩ 2) = some (.slice x20 x20n x20c) ∧
 Calls Tryd.prog 29 #[(.slice x20 x20n x20c)] w19 fun e21 w22 => ∃ (x23 : Option Addr) (x23n : Nat) (x23c : Nat), ∃ x24 : Int, e21 = .returned (.tuple #[(.slice x23 x23n x23c), (.int .i64 x24)]) ∧
 ∃ (x25 : Option Addr) (x25n : Nat) (x25c : Nat), (#[(.slice x23 x23n x23c), (.int .i64 x24)] : Array Value)[0]? = some (.slice x25 x25n x25c) ∧
 ∃ x26 : Int, (#[(.slice x23 x23n x23c), (.int .i64 x24)] : Array Value)[1]? = some (.int .i64 x26) ∧
 (bif (!decide (x26 = 0)) then
 (R (.returned (.int .i64 x26)) w22)
 else
 (∀ w27 : World, w27 = World.drew w22 →
 ∃ x28 : Int, World.cell? w27 (Addr.add ⟨World.heap w |>.size, 0, none⟩ 1) = some (.int .i64 x28) ∧
 optK m0 fun a29 =>
 ∃ x30 : Int, World.cell? w27 (Addr.add a29 1) = some (.int .i64 x30) ∧
 (bif (decide (x28 < x30)) then
 (R (.returned (.int .i64 0)) w27)
 else
 (∃ x31 : Int, World.cell? w27 (Addr.add ⟨World.heap w |>.size, 0, none⟩ 0) = some (.int .i64 x31) ∧
 ∃ x32 : Int, World.cell? w27 (Addr.add ⟨World.heap w |>.size, 0, none⟩ 1) = some (.int .i64 x32) ∧
 ∃ cs33, fillL (.fields [(0, 1), (1, 1)]) (zc Tryd.prog 59) [(0, (.int .i64 x31)), (1, (.int .i64 x32))] = some cs33 ∧
 ∀ w34 : World, w34 = World.alloc w27 (.cells (zc Tryd.prog 59).toArray 59) →
 Array.size (List.toArray cs33) = 2 ∧ (∀ u ∈ Array.toList (List.toArray cs33), one u = true) ∧ Room w34 ⟨World.heap w27 |>.size, 0, none⟩ 2 ∧
 ∀ w35 : World, w35 = setCells w34 ⟨World.heap w27 |>.size, 0, none⟩ (Array.toList (List.toArray cs33)) 0 →
 ∀ w36 : World, w36 = World.drew w35 →
 optK m0 fun a37 =>
 ∃ x38 : Option Nat, World.cell? w36 (Addr.add a37 3) = some (.map x38) ∧
 ∃ cs39 : List Value, List.length cs39 = 2 ∧ Cells w36 ⟨World.heap w27 |>.size, 0, none⟩ cs39 ∧
 ∃ v40, Sem.run Tryd.prog (Instr.lookup 155 (.map x38) (.agg (List.toArray cs39)) true) w36 = .ok v40 w36 ∧ ∃ x41 : Value, v40 = x41 ∧
 tupK x41 fun vs42 =>
 ∃ (x43 : Option Addr) (x43n : Nat) (x43c : Nat), (vs42)[0]? = some (.slice x43 x43n x43c) ∧
 tupK x41 fun vs44 =>
 ∃ x45 : Bool, (vs44)[1]? = some (.bool x45) ∧
 (bif x45 then
 (∃ (x46 : Option Addr) (x46n : Nat) (x46c : Nat), World.cell? w36 (Addr.add ⟨World.heap w |>.size, 0, none⟩ 2) = some (.slice x46 x46n x46c) ∧
 Calls Tryd.prog 87 #[(.slice x43 x43n x43c), (.slice x46 x46n x46c)] w36 fun e47 w48 => ∃ x49 : Bool, e47 = .returned (.bool x49) ∧
 (bif (!x49) then
 (R (.returned (.int .i64 263)) w48)
 else
 (R (.returned (.int .i64 0)) w48)))
 else
 (∀ w50 : World, w50 = World.drew w36 →
 optK m0 fun a51 =>
 ∃ x52 : Option Nat, World.cell? w50 (Addr.add a51 3) = some (.map x52) ∧
 ∃ cs53 : List Value, List.length cs53 = 2 ∧ Cells w50 ⟨World.heap w27 |>.size, 0, none⟩ cs53 ∧
 ∃ (x54 : Option Addr) (x54n : Nat) (x54c : Nat), World.cell? w50 (Addr.add ⟨World.heap w |>.size, 0, none⟩ 2) = some (.slice x54 x54n x54c) ∧
 Calls Tryd.prog 88 #[(.slice x54 x54n x54c)] w50 fun e55 w56 => ∃ (x57 : Option Addr) (x57n : Nat) (x57c : Nat), e55 = .returned (.slice x57 x57n x57c) ∧
 (∃ cs58 : List Value, List.length cs58 = 2 ∧ Cells w56 ⟨World.heap w27 |>.size, 0, none⟩ cs58 ∧
 (((.agg (List.toArray cs58)) : Value) = (.agg (List.toArray cs53)) ∧ w56 = w56)) ∧
 (∃ z59 : Option Nat, World.cell? w56 (Addr.add a51 3) = some (.map z59) ∧
 (((.map z59) : Value) = (.map x52) ∧ w56 = w56)) ∧
 RunU Tryd.prog (Instr.mapUpdate 155 (.map x52) (.agg (List.toArray cs53)) (.slice x57 x57n x57c)) w56 fun w60 =>
 ∀ w61 : World, w61 = World.drew w60 →
 optK m0 fun a62 =>
 ∃ x63 : Int, World.cell? w61 (Addr.add a62 2) = some (.int .i64 x63) ∧
 ∃ x64 : Int, World.cell? w61 (Addr.add ⟨World.heap w |>.size, 0, none⟩ 1) = some (.int .i64 x64) ∧
 RunV Tryd.prog (Builtin.max_ #[3, 3] 3 #[(.int .i64 x63), (.int .i64 x64)]) w61 fun v65 w66 => ∃ x67 : Int, v65 = (.int .i64 x67) ∧
 optK m0 fun a68 =>
 one (.int .i64 x67) = true ∧ Option.isSome (World.cell? w66 (Addr.add a68 2)) = true ∧ World.frozen? w66 (Addr.add a68 2) = false ∧
 ∀ w69 : World, w69 = World.setCell w66 (Addr.add a68 2) (.int .i64 x67) →
 R (.returned (.int .i64 0)) w69))))))))
theorem e56 (m0 : Option Addr) (p1 : Array Value) (w : World) (R : Ending → World → Prop) : denS Tryd.prog s56 (argsEnv 0 [(.pointer m0), (.agg p1)]) w (endK r56 R) = d56 m0 p1 w R := by kernel_rfl
theorem c56 (m0 : Option Addr) (p1 : Array Value) {w : World} {R : Ending → World → Prop} (h : d56 m0 p1 w R) : Calls Tryd.prog 56 #[(.pointer m0), (.agg p1)] w R :=
  den56 [(.pointer m0), (.agg p1)] w R (by simp) ((e56 m0 p1 w R).symm ▸ h)

/-- (*prelude/merge.Merger).Next -/
def s57 : S := (.seq (.ops [⟨(some 2), (.mv (.const (.slice none 0 0))), .sl, none⟩,
  ⟨(some 3), (.mv (.const (.bool false))), .bool, none⟩] [0])
 (.seq (.seq (.ops [⟨(some 9), (.mv (.tmp 0)), .ptr, none⟩,
  ⟨(some 10), (.nc (.tmp 9)), .any, none⟩,
  ⟨(some 11), (.fa 1 (.tmp 10)), .ptr, none⟩,
  ⟨(some 12), (.ld1 (.tmp 11)), (.int .i64), none⟩,
  ⟨(some 13), (.call 64 [(.tmp 12)] [.bool]), .bool, none⟩,
  ⟨(some 14), (.un .not (.tmp 13)), .bool, none⟩] [14, 0])
 (.cond (.tmp 14)
 (.seq (.ops [⟨(some 2), (.mv (.const (.slice none 0 0))), .sl, none⟩,
  ⟨(some 3), (.mv (.const (.bool false))), .bool, none⟩] [2, 3])
 .ret)
 .skip))
 (.seq (.ops [⟨(some 4), (.mv (.const (.slice none 0 0))), .sl, none⟩] [0, 4])
 (.seq (.seq (.ops [⟨(some 15), (.mv (.tmp 0)), .ptr, none⟩,
  ⟨(some 16), (.nc (.tmp 15)), .any, none⟩,
  ⟨(some 17), (.fa 0 (.tmp 16)), .ptr, none⟩,
  ⟨(some 18), (.ld1 (.tmp 17)), (.int .i64), none⟩,
  ⟨(some 19), (.mv (.const (.int .i64 0))), (.int .i64), none⟩] [19, 18, 0, 4])
 (.block 0
 (.loop [(4, .sl), (19, (.int .i64))] [0, 18]
 (.seq (.ops [⟨(some 20), (.bin .lss (.tmp 19) (.tmp 18)), .bool, none⟩] [20, 19, 0, 4, 18])
 (.seq (.cond (.tmp 20)
 .skip
 (.exit 0))
 (.seq (.block 1
 (.seq (.ops [⟨(some 21), (.mv (.tmp 19)), (.int .i64), none⟩,
  ⟨(some 5), (.mv (.tmp 21)), (.int .i64), none⟩] [0, 5, 4, 19, 18])
 (.seq (.draw (.take 0 ⟨(some 23), (.mv (.tmp 0)), .ptr, none⟩
  (.take 1 ⟨(some 24), (.nc (.tmp 23)), .any, none⟩
  (.take 2 ⟨(some 25), (.fa 3 (.tmp 24)), .ptr, none⟩
  (.take 3 ⟨(some 26), (.ld1 (.tmp 25)), .mp, none⟩
  (.take 4 ⟨(some 27), (.mv (.tmp 0)), .ptr, none⟩
  (.take 5 ⟨(some 28), (.nc (.tmp 27)), .any, none⟩
  (.take 6 ⟨(some 29), (.fa 1 (.tmp 28)), .ptr, none⟩
  (.take 7 ⟨(some 30), (.ld1 (.tmp 29)), (.int .i64), none⟩
  (.take 8 ⟨(some 31), (.bin .sub (.tmp 30) (.const (.int .i64 1))), (.int .i64), none⟩
  (.take 9 ⟨(some 32), (.mv (.tmp 5)), (.int .i64), none⟩
  (.take 10 ⟨(some 33), (.bin .add (.tmp 31) (.tmp 32)), (.int .i64), none⟩
  (.take 11 ⟨(some 34), (.mv (.tmp 0)), .ptr, none⟩
  (.take 12 ⟨(some 35), (.nc (.tmp 34)), .any, none⟩
  (.take 13 ⟨(some 36), (.fa 0 (.tmp 35)), .ptr, none⟩
  (.take 14 ⟨(some 37), (.ld1 (.tmp 36)), (.int .i64), none⟩
  (.take 15 ⟨(some 38), (.bin .rem (.tmp 33) (.tmp 37)), (.int .i64), none⟩
  (.take 16 ⟨(some 39), (.mv (.tmp 0)), .ptr, none⟩
  (.take 17 ⟨(some 40), (.nc (.tmp 39)), .any, none⟩
  (.take 18 ⟨(some 41), (.fa 1 (.tmp 40)), .ptr, none⟩
  (.take 19 ⟨(some 42), (.ld1 (.tmp 41)), (.int .i64), none⟩
  (.take 20 ⟨(some 43), (.bld 59 (.fields [(0, 1), (1, 1)]) [(0, (.tmp 38)), (1, (.tmp 42))]), .agg, none⟩
  (.take 21 ⟨(some 44), (.look 155 (.tmp 26) (.tmp 43) true), .any, none⟩
  (.take 22 ⟨(some 22), (.mv (.tmp 44)), .any, none⟩
  (.take 23 ⟨(some 45), (.ext 0 (.tmp 22)), .sl, none⟩
  (.take 24 ⟨(some 46), (.ext 1 (.tmp 22)), .bool, none⟩
  (.take 25 ⟨(some 6), (.mv (.tmp 45)), .sl, none⟩
  (.take 26 ⟨(some 7), (.mv (.tmp 46)), .bool, none⟩
  .done))))))))))))))))))))))))))) [7, 4, 6, 19, 18, 0])
 (.seq (.seq (.ops [⟨(some 47), (.mv (.tmp 7)), .bool, none⟩,
  ⟨(some 48), (.un .not (.tmp 47)), .bool, none⟩] [48, 4, 6, 19, 18, 0])
 (.cond (.tmp 48)
 (.seq (.ops [⟨(some 2), (.mv (.const (.slice none 0 0))), .sl, none⟩,
  ⟨(some 3), (.mv (.const (.bool false))), .bool, none⟩] [2, 3])
 .ret)
 .skip))
 (.ops [⟨(some 49), (.mv (.tmp 4)), .sl, none⟩,
  ⟨(some 50), (.mv (.tmp 6)), .sl, none⟩,
  ⟨(some 51), (.bldS 35 1 1 [(0, (.tmp 50))]), .sl, none⟩,
  ⟨(some 52), (.app #[117, 117] 117 (.tmp 49) (.tmp 51)), .sl, none⟩,
  ⟨(some 4), (.mv (.tmp 52)), .sl, none⟩] [19, 18, 0, 4])))))
 (.ops [⟨(some 53), (.bin .add (.tmp 19) (.const (.int .i64 1))), (.int .i64), none⟩,
  ⟨(some 19), (.mv (.tmp 53)), (.int .i64), none⟩] [19, 18, 0, 4])))))))
 (.seq (.seq (.ops [⟨(some 54), (.mv (.tmp 0)), .ptr, none⟩,
  ⟨(some 55), (.nc (.tmp 54)), .any, none⟩,
  ⟨(some 56), (.fa 0 (.tmp 55)), .ptr, none⟩,
  ⟨(some 57), (.ld1 (.tmp 56)), (.int .i64), none⟩,
  ⟨(some 58), (.mv (.const (.int .i64 0))), (.int .i64), none⟩] [58, 57, 0, 4])
 (.block 2
 (.loop [(58, (.int .i64))] [0, 4, 57]
 (.seq (.ops [⟨(some 59), (.bin .lss (.tmp 58) (.tmp 57)), .bool, none⟩] [59, 58, 0, 57, 4])
 (.seq (.cond (.tmp 59)
 .skip
 (.exit 2))
 (.seq (.block 3
 (.seq (.ops [⟨(some 60), (.mv (.tmp 58)), (.int .i64), none⟩,
  ⟨(some 8), (.mv (.tmp 60)), (.int .i64), none⟩] [0, 8, 58, 57, 4])
 (.draw (.take 0 ⟨(some 61), (.mv (.tmp 0)), .ptr, none⟩
  (.take 1 ⟨(some 62), (.nc (.tmp 61)), .any, none⟩
  (.take 2 ⟨(some 63), (.fa 3 (.tmp 62)), .ptr, none⟩
  (.take 3 ⟨(some 64), (.ld1 (.tmp 63)), .mp, none⟩
  (.take 4 ⟨(some 65), (.mv (.tmp 8)), (.int .i64), none⟩
  (.take 5 ⟨(some 66), (.mv (.tmp 0)), .ptr, none⟩
  (.take 6 ⟨(some 67), (.nc (.tmp 66)), .any, none⟩
  (.take 7 ⟨(some 68), (.fa 1 (.tmp 67)), .ptr, none⟩
  (.take 8 ⟨(some 69), (.ld1 (.tmp 68)), (.int .i64), none⟩
  (.take 9 ⟨(some 70), (.bld 59 (.fields [(0, 1), (1, 1)]) [(0, (.tmp 65)), (1, (.tmp 69))]), .agg, none⟩
  (.go 10 ⟨none, (.rv (.delB #[155, 59] 0) [(.tmp 64), (.tmp 70)]), .any, none⟩ []
  .done))))))))))) [58, 57, 0, 4])))
 (.ops [⟨(some 71), (.bin .add (.tmp 58) (.const (.int .i64 1))), (.int .i64), none⟩,
  ⟨(some 58), (.mv (.tmp 71)), (.int .i64), none⟩] [58, 57, 0, 4])))))))
 (.seq (.ops [⟨(some 72), (.mv (.tmp 0)), .ptr, none⟩,
  ⟨(some 73), (.nc (.tmp 72)), .any, none⟩,
  ⟨(some 74), (.fa 1 (.tmp 73)), .ptr, none⟩,
  ⟨(some 75), (.ld1 (.tmp 74)), (.int .i64), none⟩,
  ⟨(some 76), (.bin .add (.tmp 75) (.const (.int .i64 1))), (.int .i64), none⟩,
  ⟨(some 77), (.nc (.tmp 72)), .any, none⟩,
  ⟨(some 78), (.fa 1 (.tmp 77)), .ptr, none⟩,
  ⟨none, (.st1 (.tmp 78) (.tmp 76)), .any, none⟩] [4])
 (.seq (.ops [⟨(some 79), (.mv (.tmp 4)), .sl, none⟩,
  ⟨(some 2), (.mv (.tmp 79)), .sl, none⟩,
  ⟨(some 3), (.mv (.const (.bool true))), .bool, none⟩] [2, 3])
 .ret)))))))
def r57 : List Res := [.t 2, .t 3]
theorem tr57 : trS Tryd.prog [] 80 (Tryd.f57.body.getD .skip) s57 = some s57 := by kernel_rfl
theorem den57 (args : List Value) (w : World) (R : Ending → World → Prop) (hn : args.length ≤ 80) (h : denS Tryd.prog s57 (argsEnv 0 args) w (endK r57 R)) : Calls Tryd.prog 57 args.toArray w R :=
  calls_of_den (pn := []) (fn := Tryd.f57) (c := Tryd.f57.body.getD .skip) Tryd.func57 (by kernel_rfl) (by rw [Tryd.ntmps57]; exact hn) (by rw [Tryd.ntmps57]; exact tr57) (by kernel_rfl) h
def d57 (m0 : Option Addr) (w : World) (R : Ending → World → Prop) : Prop :=
 optK m0 fun a1 =>
 ∃ x2 : Int, World.cell? w (Addr.add a1 1) = some (.int .i64 x2) ∧
 Calls Tryd.prog 64 #[(.int .i64 x2)] w fun e3 w4 => ∃ x5 : Bool, e3 = .returned (.bool x5) ∧
 (bif (!x5) then
 (R (.returned (.tuple #[(.slice none 0 0), (.bool false)])) w4)
 else
 (optK m0 fun a6 =>
 ∃ x7 : Int, World.cell? w4 (Addr.add a6 0) = some (.int .i64 x7) ∧
 ∃ I8 : Nat → Option Addr → Nat → Nat → Int → World → Prop,
 (∃ m, I8 m none 0 0 0 w4) ∧
 (∀ (m9 : Nat) (w10 : World) (out11 : Option Addr) (out11n : Nat) (out11c : Nat) (x12 : Int), I8 m9 out11 out11n out11c x12 w10 →
 (bif (decide (x12 < x7)) then
 (∀ w13 : World, w13 = World.drew w10 →
 optK m0 fun a14 =>
 ∃ x15 : Option Nat, World.cell? w13 (Addr.add a14 3) = some (.map x15) ∧
 optK m0 fun a16 =>
 ∃ x17 : Int, World.cell? w13 (Addr.add a16 1) = some (.int .i64 x17) ∧
 optK m0 fun a18 =>
 ∃ x19 : Int, World.cell? w13 (Addr.add a18 0) = some (.int .i64 x19) ∧
 x19 ≠ 0 ∧ optK m0 fun a20 =>
 ∃ x21 : Int, World.cell? w13 (Addr.add a20 1) = some (.int .i64 x21) ∧
 ∃ cs22, fillL (.fields [(0, 1), (1, 1)]) (zc Tryd.prog 59) [(0, (.int .i64 (Int.tmod (IntKind.wrap .i64 ((IntKind.wrap .i64 (x17 - 1)) + x12)) x19))), (1, (.int .i64 x21))] = some cs22 ∧
 ∃ v23, Sem.run Tryd.prog (Instr.lookup 155 (.map x15) (.agg (List.toArray cs22)) true) w13 = .ok v23 w13 ∧ ∃ x24 : Value, v23 = x24 ∧
 tupK x24 fun vs25 =>
 ∃ (x26 : Option Addr) (x26n : Nat) (x26c : Nat), (vs25)[0]? = some (.slice x26 x26n x26c) ∧
 tupK x24 fun vs27 =>
 ∃ x28 : Bool, (vs27)[1]? = some (.bool x28) ∧
 (bif (!x28) then
 (R (.returned (.tuple #[(.slice none 0 0), (.bool false)])) w13)
 else
 (∃ cs29, fillL (.elems 1) (zrep (zc Tryd.prog 35) (1 * 1)) [(0, (.slice x26 x26n x26c))] = some cs29 ∧
 ∀ w30 : World, w30 = World.alloc w13 (.cells (List.toArray cs29) 35) →
 RunV Tryd.prog (Builtin.append_ #[117, 117] 117 #[(.slice out11 out11n out11c), (.slice (some ⟨World.heap w13 |>.size, 0, none⟩) 1 1)]) w30 fun v31 w32 => ∃ (x33 : Option Addr) (x33n : Nat) (x33c : Nat), v31 = (.slice x33 x33n x33c) ∧
 ∃ m34, m34 < m9 ∧ I8 m34 x33 x33n x33c (IntKind.wrap .i64 (x12 + 1)) w32)))
 else
 (optK m0 fun a35 =>
 ∃ x36 : Int, World.cell? w10 (Addr.add a35 0) = some (.int .i64 x36) ∧
 ∃ I37 : Nat → Int → World → Prop,
 (∃ m, I37 m 0 w10) ∧
 (∀ (m38 : Nat) (w39 : World) (x40 : Int), I37 m38 x40 w39 →
 (bif (decide (x40 < x36)) then
 (∀ w41 : World, w41 = World.drew w39 →
 optK m0 fun a42 =>
 ∃ x43 : Option Nat, World.cell? w41 (Addr.add a42 3) = some (.map x43) ∧
 optK m0 fun a44 =>
 ∃ x45 : Int, World.cell? w41 (Addr.add a44 1) = some (.int .i64 x45) ∧
 ∃ cs46, fillL (.fields [(0, 1), (1, 1)]) (zc Tryd.prog 59) [(0, (.int .i64 x40)), (1, (.int .i64 x45))] = some cs46 ∧
 RunV Tryd.prog (Builtin.delete_ #[155, 59] 0 #[(.map x43), (.agg (List.toArray cs46))]) w41 fun v47 w48 => ∃ x49 : Value, v47 = x49 ∧
 ∃ m50, m50 < m38 ∧ I37 m50 (IntKind.wrap .i64 (x40 + 1)) w48)
 else
 (optK m0 fun a51 =>
 ∃ x52 : Int, World.cell? w39 (Addr.add a51 1) = some (.int .i64 x52) ∧
 optK m0 fun a53 =>
 one (.int .i64 (IntKind.wrap .i64 (x52 + 1))) = true ∧ Option.isSome (World.cell? w39 (Addr.add a53 1)) = true ∧ World.frozen? w39 (Addr.add a53 1) = false ∧
 ∀ w54 : World, w54 = World.setCell w39 (Addr.add a53 1) (.int .i64 (IntKind.wrap .i64 (x52 + 1))) →
 R (.returned (.tuple #[(.slice out11 out11n out11c), (.bool true)])) w54))))))))
theorem e57 (m0 : Option Addr) (w : World) (R : Ending → World → Prop) : denS Tryd.prog s57 (argsEnv 0 [(.pointer m0)]) w (endK r57 R) = d57 m0 w R := by kernel_rfl
theorem c57 (m0 : Option Addr) {w : World} {R : Ending → World → Prop} (h : d57 m0 w R) : Calls Tryd.prog 57 #[(.pointer m0)] w R :=
  den57 [(.pointer m0)] w R (by simp) ((e57 m0 w R).symm ▸ h)

/-- prelude/merge.same -/
def s87 : S := (.seq (.ops [⟨(some 4), (.mv (.const (.bool false))), .bool, none⟩] [0, 1])
 (.seq (.ops [⟨(some 10), (.mv (.tmp 0)), .sl, none⟩,
  ⟨(some 11), (.call 29 [(.tmp 10)] [.sl, (.int .i64)]), .any, none⟩,
  ⟨(some 9), (.mv (.tmp 11)), .any, none⟩,
  ⟨(some 12), (.ext 0 (.tmp 9)), .sl, none⟩,
  ⟨(some 13), (.ext 1 (.tmp 9)), (.int .i64), none⟩,
  ⟨(some 5), (.mv (.tmp 12)), .sl, none⟩,
  ⟨(some 6), (.mv (.tmp 13)), (.int .i64), none⟩] [1, 5])
 (.seq (.ops [⟨(some 15), (.mv (.tmp 1)), .sl, none⟩,
  ⟨(some 16), (.call 29 [(.tmp 15)] [.sl, (.int .i64)]), .any, none⟩,
  ⟨(some 14), (.mv (.tmp 16)), .any, none⟩,
  ⟨(some 17), (.ext 0 (.tmp 14)), .sl, none⟩,
  ⟨(some 18), (.ext 1 (.tmp 14)), (.int .i64), none⟩,
  ⟨(some 7), (.mv (.tmp 17)), .sl, none⟩,
  ⟨(some 8), (.mv (.tmp 18)), (.int .i64), none⟩] [5, 7])
 (.seq (.ops [⟨(some 19), (.mv (.tmp 5)), .sl, none⟩,
  ⟨(some 20), (.mv (.tmp 7)), .sl, none⟩,
  ⟨(some 21), (.call 101 [(.tmp 19), (.tmp 20)] [.bool]), .bool, none⟩,
  ⟨(some 4), (.mv (.tmp 21)), .bool, none⟩] [4])
 .ret))))
def r87 : List Res := [.t 4]
theorem tr87 : trS Tryd.prog [] 22 (Tryd.f87.body.getD .skip) s87 = some s87 := by kernel_rfl
theorem den87 (args : List Value) (w : World) (R : Ending → World → Prop) (hn : args.length ≤ 22) (h : denS Tryd.prog s87 (argsEnv 0 args) w (endK r87 R)) : Calls Tryd.prog 87 args.toArray w R :=
  calls_of_den (pn := []) (fn := Tryd.f87) (c := Tryd.f87.body.getD .skip) Tryd.func87 (by kernel_rfl) (by rw [Tryd.ntmps87]; exact hn) (by rw [Tryd.ntmps87]; exact tr87) (by kernel_rfl) h
def d87 (a0 : Option Addr) (a0n : Nat) (a0c : Nat) (b1 : Option Addr) (b1n : Nat) (b1c : Nat) (w : World) (R : Ending → World → Prop) : Prop :=
 Calls Tryd.prog 29 #[(.slice a0 a0n a0c)] w fun e2 w3 => ∃ (x4 : Option Addr) (x4n : Nat) (x4c : Nat), ∃ x5 : Int, e2 = .returned (.tuple #[(.slice x4 x4n x4c), (.int .i64 x5)]) ∧
 ∃ (x6 : Option Addr) (x6n : Nat) (x6c : Nat), (#[(.slice x4 x4n x4c), (.int .i64 x5)] : Array Value)[0]? = some (.slice x6 x6n x6c) ∧
 ∃ x7 : Int, (#[(.slice x4 x4n x4c), (.int .i64 x5)] : Array Value)[1]? = some (.int .i64 x7) ∧
 Calls Tryd.prog 29 #[(.slice b1 b1n b1c)] w3 fun e8 w9 => ∃ (x10 : Option Addr) (x10n : Nat) (x10c : Nat), ∃ x11 : Int, e8 = .returned (.tuple #[(.slice x10 x10n x10c), (.int .i64 x11)]) ∧
 ∃ (x12 : Option Addr) (x12n : Nat) (x12c : Nat), (#[(.slice x10 x10n x10c), (.int .i64 x11)] : Array Value)[0]? = some (.slice x12 x12n x12c) ∧
 ∃ x13 : Int, (#[(.slice x10 x10n x10c), (.int .i64 x11)] : Array Value)[1]? = some (.int .i64 x13) ∧
 Calls Tryd.prog 101 #[(.slice x6 x6n x6c), (.slice x12 x12n x12c)] w9 fun e14 w15 => ∃ x16 : Bool, e14 = .returned (.bool x16) ∧
 R (.returned (.bool x16)) w15
theorem e87 (a0 : Option Addr) (a0n : Nat) (a0c : Nat) (b1 : Option Addr) (b1n : Nat) (b1c : Nat) (w : World) (R : Ending → World → Prop) : denS Tryd.prog s87 (argsEnv 0 [(.slice a0 a0n a0c), (.slice b1 b1n b1c)]) w (endK r87 R) = d87 a0 a0n a0c b1 b1n b1c w R := by kernel_rfl
theorem c87 (a0 : Option Addr) (a0n : Nat) (a0c : Nat) (b1 : Option Addr) (b1n : Nat) (b1c : Nat) {w : World} {R : Ending → World → Prop} (h : d87 a0 a0n a0c b1 b1n b1c w R) : Calls Tryd.prog 87 #[(.slice a0 a0n a0c), (.slice b1 b1n b1c)] w R :=
  den87 [(.slice a0 a0n a0c), (.slice b1 b1n b1c)] w R (by simp) ((e87 a0 a0n a0c b1 b1n b1c w R).symm ▸ h)

/-- prelude/merge.copied -/
def s88 : S := (.seq (.ops [⟨(some 2), (.mv (.const (.slice none 0 0))), .sl, none⟩] [0])
 (.seq (.ops [⟨(some 3), (.mv (.const (.slice none 0 0))), .sl, none⟩] [0, 3])
 (.seq (.seq (.ops [⟨(some 6), (.mv (.tmp 0)), .sl, none⟩,
  ⟨(some 7), (.len (.tmp 6)), (.int .i64), none⟩,
  ⟨(some 8), (.mv (.const (.int .i64 0))), (.int .i64), none⟩] [8, 7, 6, 3])
 (.block 0
 (.loop [(3, .sl), (8, (.int .i64))] [6, 7]
 (.seq (.ops [⟨(some 9), (.bin .lss (.tmp 8) (.tmp 7)), .any, none⟩] [9, 6, 8, 3, 7])
 (.seq (.cond (.tmp 9)
 .skip
 (.exit 0))
 (.seq (.block 1
 (.seq (.ops [⟨(some 10), (.ia 4 (.tmp 6) (.tmp 8)), .ptr, none⟩,
  ⟨(some 11), (.ldN 4 (.tmp 10)), .agg, none⟩,
  ⟨(some 5), (.alloc 76), .ptr, none⟩,
  ⟨none, (.stN 4 (.tmp 5) (.tmp 11)), .any, none⟩] [3, 5, 8, 7, 6])
 (.draw (.take 0 ⟨(some 12), (.mv (.tmp 3)), .sl, none⟩
  (.take 1 ⟨(some 13), (.fa 0 (.tmp 5)), .ptr, none⟩
  (.take 2 ⟨(some 14), (.ld1 (.tmp 13)), (.int .i64), none⟩
  (.take 3 ⟨(some 15), (.fa 1 (.tmp 5)), .ptr, none⟩
  (.take 4 ⟨(some 16), (.ld1 (.tmp 15)), .sl, none⟩
  (.take 6 ⟨(some 18), (.fa 2 (.tmp 5)), .ptr, none⟩
  (.take 7 ⟨(some 19), (.ld1 (.tmp 18)), .sl, none⟩
  (.take 9 ⟨(some 21), (.fa 3 (.tmp 5)), .ptr, none⟩
  (.take 10 ⟨(some 22), (.ld1 (.tmp 21)), .sl, none⟩
  (.go 5 ⟨(some 17), (.call 102 [(.tmp 16)] [.sl]), .sl, none⟩ [(10, ⟨(some 22), (.ld1 (.tmp 21)), .sl, none⟩), (7, ⟨(some 19), (.ld1 (.tmp 18)), .sl, none⟩), (2, ⟨(some 14), (.ld1 (.tmp 13)), (.int .i64), none⟩)]
  (.go 8 ⟨(some 20), (.call 103 [(.tmp 19)] [.sl]), .sl, none⟩ [(10, ⟨(some 22), (.ld1 (.tmp 21)), .sl, none⟩), (2, ⟨(some 14), (.ld1 (.tmp 13)), (.int .i64), none⟩)]
  (.go 11 ⟨(some 23), (.call 103 [(.tmp 22)] [.sl]), .sl, none⟩ [(2, ⟨(some 14), (.ld1 (.tmp 13)), (.int .i64), none⟩)]
  (.take 12 ⟨(some 24), (.bld 76 (.fields [(0, 1), (1, 1), (2, 1), (3, 1)]) [(0, (.tmp 14)), (1, (.tmp 17)), (2, (.tmp 20)), (3, (.tmp 23))]), .agg, none⟩
  (.go 13 ⟨(some 25), (.bldS 76 1 4 [(0, (.tmp 24))]), .sl, none⟩ []
  (.go 14 ⟨(some 26), (.app #[35, 35] 35 (.tmp 12) (.tmp 25)), .sl, none⟩ []
  (.take 15 ⟨(some 3), (.mv (.tmp 26)), .sl, none⟩
  .done)))))))))))))))) [8, 7, 6, 3])))
 (.ops [⟨(some 27), (.bin .add (.tmp 8) (.const (.int .i64 1))), (.int .i64), none⟩,
  ⟨(some 8), (.mv (.tmp 27)), (.int .i64), none⟩] [8, 7, 6, 3])))))))
 (.seq (.ops [⟨(some 28), (.mv (.tmp 3)), .sl, none⟩,
  ⟨(some 2), (.mv (.tmp 28)), .sl, none⟩] [2])
 .ret))))
def r88 : List Res := [.t 2]
theorem tr88 : trS Tryd.prog [] 29 (Tryd.f88.body.getD .skip) s88 = some s88 := by kernel_rfl
theorem den88 (args : List Value) (w : World) (R : Ending → World → Prop) (hn : args.length ≤ 29) (h : denS Tryd.prog s88 (argsEnv 0 args) w (endK r88 R)) : Calls Tryd.prog 88 args.toArray w R :=
  calls_of_den (pn := []) (fn := Tryd.f88) (c := Tryd.f88.body.getD .skip) Tryd.func88 (by kernel_rfl) (by rw [Tryd.ntmps88]; exact hn) (by rw [Tryd.ntmps88]; exact tr88) (by kernel_rfl) h
def d88 (b0 : Option Addr) (b0n : Nat) (b0c : Nat) (w : World) (R : Ending → World → Prop) : Prop :=
 ∃ I1 : Nat → Option Addr → Nat → Nat → Int → World → Prop,
 (∃ m, I1 m none 0 0 0 w) ∧
 (∀ (m2 : Nat) (w3 : World) (out4 : Option Addr) (out4n : Nat) (out4c : Nat) (x5 : Int), I1 m2 out4 out4n out4c x5 w3 →
 (bif (decide (x5 < ((b0n : Nat) : Int))) then
 (0 ≤ x5 ∧ x5 < ((b0n : Nat) : Int) ∧ optK b0 fun a6 =>
 ∃ cs7 : List Value, List.length cs7 = 4 ∧ Cells w3 (Addr.add a6 (Int.toNat x5 * 4)) cs7 ∧
 ∀ w8 : World, w8 = World.alloc w3 (.cells (zc Tryd.prog 76).toArray 76) →
 Array.size (List.toArray cs7) = 4 ∧ (∀ u ∈ Array.toList (List.toArray cs7), one u = true) ∧ Room w8 ⟨World.heap w3 |>.size, 0, none⟩ 4 ∧
 ∀ w9 : World, w9 = setCells w8 ⟨World.heap w3 |>.size, 0, none⟩ (Array.toList (List.toArray cs7)) 0 →
 ∀ w10 : World, w10 = World.drew w9 →
 ∃ x11 : Int, World.cell? w10 (Addr.add ⟨World.heap w3 |>.size, 0, none⟩ 0) = some (.int .i64 x11) ∧
 ∃ (x12 : Option Addr) (x12n : Nat) (x12c : Nat), World.cell? w10 (Addr.add ⟨World.heap w3 |>.size, 0, none⟩ 1) = some (.slice x12 x12n x12c) ∧
 ∃ (x13 : Option Addr) (x13n : Nat) (x13c : Nat), World.cell? w10 (Addr.add ⟨World.heap w3 |>.size, 0, none⟩ 2) = some (.slice x13 x13n x13c) ∧
 ∃ (x14 : Option Addr) (x14n : Nat) (x14c : Nat), World.cell? w10 (Addr.add ⟨World.heap w3 |>.size, 0, none⟩ 3) = some (.slice x14 x14n x14c) ∧
 Calls Tryd.prog 102 #[(.slice x12 x12n x12c)] w10 fun e15 w16 => ∃ (x17 : Option Addr) (x17n : Nat) (x17c : Nat), e15 = .returned (.slice x17 x17n x17c) ∧
 (∃ (z18 : Option Addr) (z18n : Nat) (z18c : Nat), World.cell? w16 (Addr.add ⟨World.heap w3 |>.size, 0, none⟩ 3) = some (.slice z18 z18n z18c) ∧
 (((.slice z18 z18n z18c) : Value) = (.slice x14 x14n x14c) ∧ w16 = w16)) ∧
 (∃ (z19 : Option Addr) (z19n : Nat) (z19c : Nat), World.cell? w16 (Addr.add ⟨World.heap w3 |>.size, 0, none⟩ 2) = some (.slice z19 z19n z19c) ∧
 (((.slice z19 z19n z19c) : Value) = (.slice x13 x13n x13c) ∧ w16 = w16)) ∧
 (∃ z20 : Int, World.cell? w16 (Addr.add ⟨World.heap w3 |>.size, 0, none⟩ 0) = some (.int .i64 z20) ∧
 (((.int .i64 z20) : Value) = (.int .i64 x11) ∧ w16 = w16)) ∧
 Calls Tryd.prog 103 #[(.slice x13 x13n x13c)] w16 fun e21 w22 => ∃ (x23 : Option Addr) (x23n : Nat) (x23c : Nat), e21 = .returned (.slice x23 x23n x23c) ∧
 (∃ (z24 : Option Addr) (z24n : Nat) (z24c : Nat), World.cell? w22 (Addr.add ⟨World.heap w3 |>.size, 0, none⟩ 3) = some (.slice z24 z24n z24c) ∧
 (((.slice z24 z24n z24c) : Value) = (.slice x14 x14n x14c) ∧ w22 = w22)) ∧
 (∃ z25 : Int, World.cell? w22 (Addr.add ⟨World.heap w3 |>.size, 0, none⟩ 0) = some (.int .i64 z25) ∧
 (((.int .i64 z25) : Value) = (.int .i64 x11) ∧ w22 = w22)) ∧
 Calls Tryd.prog 103 #[(.slice x14 x14n x14c)] w22 fun e26 w27 => ∃ (x28 : Option Addr) (x28n : Nat) (x28c : Nat), e26 = .returned (.slice x28 x28n x28c) ∧
 (∃ z29 : Int, World.cell? w27 (Addr.add ⟨World.heap w3 |>.size, 0, none⟩ 0) = some (.int .i64 z29) ∧
 (((.int .i64 z29) : Value) = (.int .i64 x11) ∧ w27 = w27)) ∧
 ∃ cs30, fillL (.fields [(0, 1), (1, 1), (2, 1), (3, 1)]) (zc Tryd.prog 76) [(0, (.int .i64 x11)), (1, (.slice x17 x17n x17c)), (2, (.slice x23 x23n x23c)), (3, (.slice x28 x28n x28c))] = some cs30 ∧
 ∃ cs31, fillL (.elems 4) (zrep (zc Tryd.prog 76) (1 * 4)) [(0, (.agg (List.toArray cs30)))] = some cs31 ∧
 ∀ w32 : World, w32 = World.alloc w27 (.cells (List.toArray cs31) 76) →
 RunV Tryd.prog (Builtin.append_ #[35, 35] 35 #[(.slice out4 out4n out4c), (.slice (some ⟨World.heap w27 |>.size, 0, none⟩) 1 1)]) w32 fun v33 w34 => ∃ (x35 : Option Addr) (x35n : Nat) (x35c : Nat), v33 = (.slice x35 x35n x35c) ∧
 ∃ m36, m36 < m2 ∧ I1 m36 x35 x35n x35c (IntKind.wrap .i64 (x5 + 1)) w34)
 else
 (R (.returned (.slice out4 out4n out4c)) w3)))
theorem e88 (b0 : Option Addr) (b0n : Nat) (b0c : Nat) (w : World) (R : Ending → World → Prop) : denS Tryd.prog s88 (argsEnv 0 [(.slice b0 b0n b0c)]) w (endK r88 R) = d88 b0 b0n b0c w R := by kernel_rfl
theorem c88 (b0 : Option Addr) (b0n : Nat) (b0c : Nat) {w : World} {R : Ending → World → Prop} (h : d88 b0 b0n b0c w R) : Calls Tryd.prog 88 #[(.slice b0 b0n b0c)] w R :=
  den88 [(.slice b0 b0n b0c)] w R (by simp) ((e88 b0 b0n b0c w R).symm ▸ h)

/-- slices.Equal[[]byte,byte] -/
def s101 : S := (.seq (.ops [⟨(some 4), (.mv (.const (.bool false))), .bool, none⟩] [0, 1])
 (.seq (.seq (.ops [⟨(some 6), (.mv (.tmp 0)), .sl, none⟩,
  ⟨(some 7), (.len (.tmp 6)), (.int .i64), none⟩,
  ⟨(some 8), (.mv (.tmp 1)), .sl, none⟩,
  ⟨(some 9), (.len (.tmp 8)), (.int .i64), none⟩,
  ⟨(some 10), (.bin .neq (.tmp 7) (.tmp 9)), .bool, none⟩] [10, 0, 1])
 (.cond (.tmp 10)
 (.seq (.ops [⟨(some 4), (.mv (.const (.bool false))), .bool, none⟩] [4])
 .ret)
 .skip))
 (.seq (.seq (.ops [⟨(some 11), (.mv (.tmp 0)), .sl, none⟩,
  ⟨(some 12), (.len (.tmp 11)), (.int .i64), none⟩,
  ⟨(some 13), (.mv (.const (.int .i64 0))), (.int .i64), none⟩] [13, 12, 0, 1])
 (.block 0
 (.loop [(13, (.int .i64))] [0, 1, 12]
 (.seq (.ops [⟨(some 14), (.bin .lss (.tmp 13) (.tmp 12)), .any, none⟩] [14, 13, 0, 1, 12])
 (.seq (.cond (.tmp 14)
 .skip
 (.exit 0))
 (.seq (.block 1
 (.seq (.ops [⟨(some 15), (.mv (.tmp 13)), (.int .i64), none⟩,
  ⟨(some 5), (.mv (.tmp 15)), (.int .i64), none⟩] [0, 5, 1, 13, 12])
 (.seq (.draw (.take 0 ⟨(some 16), (.mv (.tmp 0)), .sl, none⟩
  (.take 1 ⟨(some 17), (.mv (.tmp 5)), (.int .i64), none⟩
  (.take 2 ⟨(some 18), (.ia 1 (.tmp 16) (.tmp 17)), .ptr, none⟩
  (.take 3 ⟨(some 19), (.ld1 (.tmp 18)), (.int .u8), none⟩
  (.take 4 ⟨(some 20), (.mv (.tmp 1)), .sl, none⟩
  (.take 5 ⟨(some 21), (.mv (.tmp 5)), (.int .i64), none⟩
  (.take 6 ⟨(some 22), (.ia 1 (.tmp 20) (.tmp 21)), .ptr, none⟩
  (.take 7 ⟨(some 23), (.ld1 (.tmp 22)), (.int .u8), none⟩
  (.take 8 ⟨(some 24), (.bin .neq (.tmp 19) (.tmp 23)), .bool, none⟩
  .done))))))))) [24, 13, 12, 0, 1])
 (.cond (.tmp 24)
 (.seq (.ops [⟨(some 4), (.mv (.const (.bool false))), .bool, none⟩] [4])
 .ret)
 .skip))))
 (.ops [⟨(some 25), (.bin .add (.tmp 13) (.const (.int .i64 1))), (.int .i64), none⟩,
  ⟨(some 13), (.mv (.tmp 25)), (.int .i64), none⟩] [13, 12, 0, 1])))))))
 (.seq (.ops [⟨(some 4), (.mv (.const (.bool true))), .bool, none⟩] [4])
 .ret))))
def r101 : List Res := [.t 4]
theorem tr101 : trS Tryd.prog [] 26 (Tryd.f101.body.getD .skip) s101 = some s101 := by kernel_rfl
theorem den101 (args : List Value) (w : World) (R : Ending → World → Prop) (hn : args.length ≤ 26) (h : denS Tryd.prog s101 (argsEnv 0 args) w (endK r101 R)) : Calls Tryd.prog 101 args.toArray w R :=
  calls_of_den (pn := []) (fn := Tryd.f101) (c := Tryd.f101.body.getD .skip) Tryd.func101 (by kernel_rfl) (by rw [Tryd.ntmps101]; exact hn) (by rw [Tryd.ntmps101]; exact tr101) (by kernel_rfl) h
def d101 (s10 : Option Addr) (s10n : Nat) (s10c : Nat) (s21 : Option Addr) (s21n : Nat) (s21c : Nat) (w : World) (R : Ending → World → Prop) : Prop :=
 (bif (!decide (((s10n : Nat) : Int) = ((s21n : Nat) : Int))) then
 (R (.returned (.bool false)) w)
 else
 (∃ I2 : Nat → Int → World → Prop,
 (∃ m, I2 m 0 w) ∧
 (∀ (m3 : Nat) (w4 : World) (x5 : Int), I2 m3 x5 w4 →
 (bif (decide (x5 < ((s10n : Nat) : Int))) then
 (∀ w6 : World, w6 = World.drew w4 →
 0 ≤ x5 ∧ x5 < ((s10n : Nat) : Int) ∧ optK s10 fun a7 =>
 ∃ x8 : Int, World.cell? w6 (Addr.add a7 (Int.toNat x5 * 1)) = some (.int .u8 x8) ∧
 0 ≤ x5 ∧ x5 < ((s21n : Nat) : Int) ∧ optK s21 fun a9 =>
 ∃ x10 : Int, World.cell? w6 (Addr.add a9 (Int.toNat x5 * 1)) = some (.int .u8 x10) ∧
 (bif (!decide (x8 = x10)) then
 (R (.returned (.bool false)) w6)
 else
 (∃ m11, m11 < m3 ∧ I2 m11 (IntKind.wrap .i64 (x5 + 1)) w6)))
 else
 (R (.returned (.bool true)) w4)))))
theorem e101 (s10 : Option Addr) (s10n : Nat) (s10c : Nat) (s21 : Option Addr) (s21n : Nat) (s21c : Nat) (w : World) (R : Ending → World → Prop) : denS Tryd.prog s101 (argsEnv 0 [(.slice s10 s10n s10c), (.slice s21 s21n s21c)]) w (endK r101 R) = d101 s10 s10n s10c s21 s21n s21c w R := by kernel_rfl
theorem c101 (s10 : Option Addr) (s10n : Nat) (s10c : Nat) (s21 : Option Addr) (s21n : Nat) (s21c : Nat) {w : World} {R : Ending → World → Prop} (h : d101 s10 s10n s10c s21 s21n s21c w R) : Calls Tryd.prog 101 #[(.slice s10 s10n s10c), (.slice s21 s21n s21c)] w R :=
  den101 [(.slice s10 s10n s10c), (.slice s21 s21n s21c)] w R (by simp) ((e101 s10 s10n s10c s21 s21n s21c w R).symm ▸ h)

/-- slices.Clone[[]int64,int64] -/
def s102 : S := (.seq (.ops [⟨(some 2), (.mv (.const (.slice none 0 0))), .sl, none⟩] [0])
 (.seq (.seq (.ops [⟨(some 3), (.mv (.tmp 0)), .sl, none⟩,
  ⟨(some 4), (.nilEq false 0 (.tmp 3)), .bool, none⟩] [4, 0])
 (.cond (.tmp 4)
 (.seq (.ops [⟨(some 2), (.mv (.const (.slice none 0 0))), .sl, none⟩] [2])
 .ret)
 .skip))
 (.seq (.ops [⟨(some 5), (.bld0 2 0), .sl, none⟩,
  ⟨(some 6), (.mv (.tmp 0)), .sl, none⟩,
  ⟨(some 7), (.app #[73, 73] 73 (.tmp 5) (.tmp 6)), .sl, none⟩,
  ⟨(some 2), (.mv (.tmp 7)), .sl, none⟩] [2])
 .ret)))
def r102 : List Res := [.t 2]
theorem tr102 : trS Tryd.prog [] 8 (Tryd.f102.body.getD .skip) s102 = some s102 := by kernel_rfl
theorem den102 (args : List Value) (w : World) (R : Ending → World → Prop) (hn : args.length ≤ 8) (h : denS Tryd.prog s102 (argsEnv 0 args) w (endK r102 R)) : Calls Tryd.prog 102 args.toArray w R :=
  calls_of_den (pn := []) (fn := Tryd.f102) (c := Tryd.f102.body.getD .skip) Tryd.func102 (by kernel_rfl) (by rw [Tryd.ntmps102]; exact hn) (by rw [Tryd.ntmps102]; exact tr102) (by kernel_rfl) h
def d102 (s0 : Option Addr) (s0n : Nat) (s0c : Nat) (w : World) (R : Ending → World → Prop) : Prop :=
 (bif (Option.isNone s0) then
 (R (.returned (.slice none 0 0)) w)
 else
 (∀ w1 : World, w1 = World.alloc w (.cells #[] 2) →
 RunV Tryd.prog (Builtin.append_ #[73, 73] 73 #[(.slice (some ⟨World.heap w |>.size, 0, none⟩) 0 0), (.slice s0 s0n s0c)]) w1 fun v2 w3 => ∃ (x4 : Option Addr) (x4n : Nat) (x4c : Nat), v2 = (.slice x4 x4n x4c) ∧
 R (.returned (.slice x4 x4n x4c)) w3))
theorem e102 (s0 : Option Addr) (s0n : Nat) (s0c : Nat) (w : World) (R : Ending → World → Prop) : denS Tryd.prog s102 (argsEnv 0 [(.slice s0 s0n s0c)]) w (endK r102 R) = d102 s0 s0n s0c w R := by kernel_rfl
theorem c102 (s0 : Option Addr) (s0n : Nat) (s0c : Nat) {w : World} {R : Ending → World → Prop} (h : d102 s0 s0n s0c w R) : Calls Tryd.prog 102 #[(.slice s0 s0n s0c)] w R :=
  den102 [(.slice s0 s0n s0c)] w R (by simp) ((e102 s0 s0n s0c w R).symm ▸ h)

/-- slices.Clone[[]prelude/api.Key,prelude/api.Key] -/
def s103 : S := (.seq (.ops [⟨(some 2), (.mv (.const (.slice none 0 0))), .sl, none⟩] [0])
 (.seq (.seq (.ops [⟨(some 3), (.mv (.tmp 0)), .sl, none⟩,
  ⟨(some 4), (.nilEq false 0 (.tmp 3)), .bool, none⟩] [4, 0])
 (.cond (.tmp 4)
 (.seq (.ops [⟨(some 2), (.mv (.const (.slice none 0 0))), .sl, none⟩] [2])
 .ret)
 .skip))
 (.seq (.ops [⟨(some 5), (.bld0 129 0), .sl, none⟩,
  ⟨(some 6), (.mv (.tmp 0)), .sl, none⟩,
  ⟨(some 7), (.app #[74, 74] 74 (.tmp 5) (.tmp 6)), .sl, none⟩,
  ⟨(some 2), (.mv (.tmp 7)), .sl, none⟩] [2])
 .ret)))
def r103 : List Res := [.t 2]
theorem tr103 : trS Tryd.prog [] 8 (Tryd.f103.body.getD .skip) s103 = some s103 := by kernel_rfl
theorem den103 (args : List Value) (w : World) (R : Ending → World → Prop) (hn : args.length ≤ 8) (h : denS Tryd.prog s103 (argsEnv 0 args) w (endK r103 R)) : Calls Tryd.prog 103 args.toArray w R :=
  calls_of_den (pn := []) (fn := Tryd.f103) (c := Tryd.f103.body.getD .skip) Tryd.func103 (by kernel_rfl) (by rw [Tryd.ntmps103]; exact hn) (by rw [Tryd.ntmps103]; exact tr103) (by kernel_rfl) h
def d103 (s0 : Option Addr) (s0n : Nat) (s0c : Nat) (w : World) (R : Ending → World → Prop) : Prop :=
 (bif (Option.isNone s0) then
 (R (.returned (.slice none 0 0)) w)
 else
 (∀ w1 : World, w1 = World.alloc w (.cells #[] 129) →
 RunV Tryd.prog (Builtin.append_ #[74, 74] 74 #[(.slice (some ⟨World.heap w |>.size, 0, none⟩) 0 0), (.slice s0 s0n s0c)]) w1 fun v2 w3 => ∃ (x4 : Option Addr) (x4n : Nat) (x4c : Nat), v2 = (.slice x4 x4n x4c) ∧
 R (.returned (.slice x4 x4n x4c)) w3))
theorem e103 (s0 : Option Addr) (s0n : Nat) (s0c : Nat) (w : World) (R : Ending → World → Prop) : denS Tryd.prog s103 (argsEnv 0 [(.slice s0 s0n s0c)]) w (endK r103 R) = d103 s0 s0n s0c w R := by kernel_rfl
theorem c103 (s0 : Option Addr) (s0n : Nat) (s0c : Nat) {w : World} {R : Ending → World → Prop} (h : d103 s0 s0n s0c w R) : Calls Tryd.prog 103 #[(.slice s0 s0n s0c)] w R :=
  den103 [(.slice s0 s0n s0c)] w R (by simp) ((e103 s0 s0n s0c w R).symm ▸ h)

end Go.Proofs.YtjchneebdlncfaaDoor.Fn
