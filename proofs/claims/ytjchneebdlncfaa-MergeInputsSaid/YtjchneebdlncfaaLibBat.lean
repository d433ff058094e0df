/-
  BATCHES AS BYTES: contracts of formed, first, Encode.
  Own work. No macro, syntax, notation, axiom.
-/
import Derived.Test.YtjchneebdlncfaaLibTx
import Derived.Test.YtjchneebdlncfaaLibCodW
import Derived.Test.YtjchneebdlncfaaFnBat
namespace Go.Proofs.Ytjchneebdlncfaa.Lib
open Go Den Fn
open Go.RowKit (Below)
open Classical
set_option maxRecDepth 8000
set_option maxHeartbeats 1000000

theorem zcTx : zc Try.prog 39 = [.int .i64 0, .slice none 0 0, .slice none 0 0, .slice none 0 0] := by kernel_rfl
theorem txT : slT Try.prog 33 39 4 80 = true := by kernel_rfl
/-- What is asked of bytes and an error. -/
def BytesR (w : World) (u : List Int × Int) (e : Ending) (w' : World) : Prop :=
  ∃ a c, e = .returned (.tuple #[.slice a u.1.length c, .int .i64 u.2]) ∧ w'.ownsRow w.heap.size 5 1 (.slice a u.1.length c) u.1.length (u8 u.1) ∧ Tch [] w w'
theorem keys_count {F : Nat → Prop} {w : World} {a : Option Addr} {n c : Nat} {l : List (Int × Int)} (h : FR F w 2 a n c (rows kC l)) : l.length = n := h.1.count kC_len (by omega)
theorem args_count {F : Nat → Prop} {w : World} {a : Option Addr} {n c : Nat} {l : List Int} (h : FR F w 1 a n c (i64s l)) : l.length = n := by
  have := h.1.len
  simp at this
  omega
theorem formed_c {F : Nat → Prop} (w : World) (v : List Value) (x : Tx) (h : TxV F w v x) : Calls Try.prog 57 #[.agg v.toArray] w fun e w' => e = .returned (.int .i64 (formedS x)) ∧ Tch [] w w' := by
  obtain ⟨a1, n1, c1, a2, n2, c2, a3, n3, c3, rfl, h1, h2, h3, hok⟩ := h
  have e1 := args_count h1
  have e2 := keys_count h2
  have e3 := keys_count h3
  refine c57 _ ?_
  unfold d57
  rintro w1 rfl
  have hS := (St.refl w []).new [.int .i64 x.proc, .slice a1 n1 c1, .slice a2 n2 c2, .slice a3 n3 c3] 39 rfl
  generalize w.alloc (.cells [Value.int .i64 x.proc, .slice a1 n1 c1, .slice a2 n2 c2, .slice a3 n3 c3].toArray 39) = w1 at *
  generalize w.heap.size = pb at *
  have hX := hS.blk (List.mem_singleton.2 rfl)
  unfold formedS
  refine ⟨fun t u => t = decide (x.proc < 0 ∨ 64 ≤ x.proc) ∧ u = w1, ?_, ?_⟩
  · refine ⟨x.proc, by rw [add_mk]; exact hX.cell 0, ?_⟩
    by_cases hp : x.proc < 0
    · rw [bif_pos hp]
      exact ⟨by rw [decide_eq_true (.inl hp)], rfl⟩
    · rw [bif_neg hp]
      refine ⟨x.proc, by rw [add_mk]; exact hX.cell 0, ?_, rfl⟩
      rw [decide_eq_decide]
      omega
  rintro w5 t ⟨rfl, rfl⟩
  by_cases hp : x.proc < 0 ∨ 64 ≤ x.proc
  · rw [bif_pos hp, if_pos hp]
    exact ⟨rfl, hS.tch⟩
  rw [bif_neg hp, if_neg hp]
  refine ⟨a1, n1, c1, by rw [add_mk]; exact hX.cell 1, ?_⟩
  by_cases g1 : 16 < n1
  · rw [bif_pos (by omega), if_pos (show 16 < x.args.length by omega)]
    exact ⟨rfl, hS.tch⟩
  rw [bif_neg (by omega), if_neg (show ¬ 16 < x.args.length by omega)]
  refine ⟨a2, n2, c2, by rw [add_mk]; exact hX.cell 2, ?_⟩
  by_cases g2 : 16 < n2
  · rw [bif_pos (by omega), if_pos (show 16 < x.reads.length by omega)]
    exact ⟨rfl, hS.tch⟩
  rw [bif_neg (by omega), if_neg (show ¬ 16 < x.reads.length by omega)]
  refine ⟨a3, n3, c3, by rw [add_mk]; exact hX.cell 3, ?_⟩
  by_cases g3 : 16 < n3
  · rw [bif_pos (by omega), if_pos (show 16 < x.writes.length by omega)]
    exact ⟨rfl, hS.tch⟩
  rw [bif_neg (by omega), if_neg (show ¬ 16 < x.writes.length by omega)]
  refine ⟨a2, n2, c2, by rw [add_mk]; exact hX.cell 2, ?_⟩
  refine (rises_c w5 x.reads a2 n2 c2 (h2.tch hS.tch (by simp)).1 hok.reads (by omega)).mono ?_
  rintro e w12 ⟨rfl, ht⟩
  refine ⟨_, rfl, ?_⟩
  replace hS := hS.quiet ht
  by_cases r1 : RisesS x.reads
  rotate_left
  · rw [bif_nneg r1, if_pos (.inl r1)]
    exact ⟨rfl, hS.tch⟩
  rw [bif_npos r1]
  refine ⟨a3, n3, c3, by rw [add_mk]; exact (hS.blk (List.mem_singleton.2 rfl)).cell 3, ?_⟩
  refine (rises_c w12 x.writes a3 n3 c3 (h3.tch hS.tch (by simp)).1 hok.writes (by omega)).mono ?_
  rintro e w16 ⟨rfl, ht⟩
  refine ⟨_, rfl, ?_⟩
  replace hS := hS.quiet ht
  by_cases r2 : RisesS x.writes
  · rw [bif_npos r2, if_neg (fun h => by rcases h with h | h; exact h r1; exact h r2)]
    exact ⟨rfl, hS.tch⟩
  · rw [bif_nneg r2, if_pos (.inr r2)]
    exact ⟨rfl, hS.tch⟩
theorem body57 : HasBody Try.prog 57 := ⟨_, Try.func57, by kernel_rfl, by kernel_rfl⟩
theorem first_c {F : Nat → Prop} (w : World) (a : Option Addr) (n c : Nat) (l : List Tx) (h : BatchV F w a n c l) :
    Calls Try.prog 56 #[.slice a n c, .func (.func 57) #[] #[]] w fun e w' => e = .returned (.tuple #[.int .i64 (firstS l).1, .int .i64 (firstS l).2]) ∧ Tch [] w w' := by
  have hn := h.count
  refine c56 _ _ _ _ ?_
  unfold d56 firstS
  by_cases h64 : 64 < n
  · rw [bif_pos (by omega), if_pos (by omega)]
    exact ⟨rfl, Tch.refl _ _⟩
  rw [bif_neg (by omega), if_neg (by omega)]
  refine ⟨fun m i u => ∃ k : Nat, i = k ∧ k ≤ n ∧ m = n - k ∧ firstG l 0 = firstG (l.drop k) k ∧ Tch [] w u, ⟨n, 0, rfl, by omega, rfl, by simp, Tch.refl _ _⟩, ?_⟩
  rintro m w4 i ⟨k, rfl, hk, rfl, hf, ht⟩
  by_cases hlt : k < n
  · rw [bif_pos (by omega)]
    refine ⟨by omega, by omega, ?_⟩
    rw [Int.toNat_natCast]
    have hlk : l[k]? = some (l[k]'(by omega)) := List.getElem?_eq_getElem (by omega)
    have hd : l.drop k = l[k]'(by omega) :: l.drop (k + 1) := List.drop_eq_getElem_cons (by omega)
    generalize l[k]'(by omega) = x at hlk hd
    rw [hd] at hf
    refine (h.quiet ht).elem hlk fun v hv => ?_
    refine var_init (n := 4) (by rw [zcTx]; rfl) hv.len hv.ones fun w8 w9 h1 h2 _ => ?_
    refine get_all h1 hv.len ?_
    refine ⟨body57, ?_⟩
    rw [show (#[] ++ #[Value.agg v.toArray] ++ #[] : Array Value) = #[.agg v.toArray] by simp]
    refine (formed_c w9 v x (hv.quiet h2)).mono ?_
    rintro e w15 ⟨rfl, ht15⟩
    refine ⟨_, rfl, ?_⟩
    replace ht := (ht.trans h2 (by simp)).trans ht15 (by simp)
    rw [show firstG (x :: l.drop (k + 1)) k = if formedS x ≠ 0 then ((k : Int), formedS x) else firstG (l.drop (k + 1)) (k + 1) from rfl] at hf
    by_cases h0 : formedS x = 0
    · rw [bif_npos h0]
      rw [if_neg (by simpa using h0)] at hf
      exact ⟨n - (k + 1), by omega, k + 1, by rw [wrap_i64 (by omega) (by omega)]; omega, by omega, rfl, hf, ht⟩
    · rw [bif_nneg h0]
      rw [if_pos h0] at hf
      rw [hf]
      exact ⟨rfl, ht⟩
  · rw [bif_neg (by omega)]
    rw [List.drop_of_length_le (by omega)] at hf
    rw [hf]
    exact ⟨rfl, ht⟩
/-- A writer at work: since w, at b, beside a block of its caller's own. -/
def WX (w u : World) (b : Nat) (bs : List Int) (xb : Nat) (cs : List Value) : Prop := Tch [] w u ∧ w.heap.size ≤ b ∧ b < xb ∧ ∃ a, Wr u b a bs ∧ xb ∉ b :: rowL a ∧ Blk u xb cs
def WO (w u : World) (b : Nat) (bs : List Int) : Prop := Tch [] w u ∧ w.heap.size ≤ b ∧ ∃ a, Wr u b a bs
theorem since_wr {w u u' : World} {b : Nat} {a : Option Addr} {bs bs' : List Int} (h : Tch [] w u) (hb : w.heap.size ≤ b) (hw : Wr u b a bs) (hr : WrR u u' b a bs') : Tch [] w u' :=
  h.trans hr.1 fun i hi => .inr (by
    rcases List.mem_cons.1 hi with rfl | hi
    · exact hb
    · have := hw.row i hi; omega)
theorem WO.step {w u u' : World} {b : Nat} {a : Option Addr} {bs bs' : List Int} (h : Tch [] w u) (hb : w.heap.size ≤ b) (hw : Wr u b a bs) (hr : WrR u u' b a bs') : WO w u' b bs' :=
  ⟨since_wr h hb hw hr, hb, hr.2.elim fun a' h => ⟨a', h.1⟩⟩
theorem WX.out {w u : World} {b xb : Nat} {bs : List Int} {cs : List Value} (h : WX w u b bs xb cs) : WO w u b bs := ⟨h.1, h.2.1, h.2.2.2.elim fun a h => ⟨a, h.1⟩⟩
theorem WX.step {w u u' : World} {b xb : Nat} {a : Option Addr} {bs bs' : List Int} {cs : List Value} (h : Tch [] w u) (hb : w.heap.size ≤ b) (hbx : b < xb) (hw : Wr u b a bs) (ho : xb ∉ b :: rowL a) (hx : Blk u xb cs) (hr : WrR u u' b a bs') : WX w u' b bs' xb cs := by
  refine ⟨since_wr h hb hw hr, hb, hbx, ?_⟩
  obtain ⟨ht, a', hw', hm⟩ := hr
  refine ⟨a', hw', fun hmem => ?_, hx.tch ht ho⟩
  rcases List.mem_cons.1 hmem with hm' | hm'
  · exact ho (by rw [hm']; simp)
  · rw [mem_rowL] at hm'
    obtain ⟨y, hy, rfl⟩ := hm'
    rcases hm y hy with hk | hk
    · exact ho (List.mem_cons_of_mem _ hk)
    · have := hx.lt; omega
theorem WX.quiet {w u u' : World} {b xb : Nat} {bs : List Int} {cs : List Value} (h : WX w u b bs xb cs) (ht : Tch [] u u') : WX w u' b bs xb cs := by
  obtain ⟨h1, h2, h3, a, h4, h5, h6⟩ := h
  exact ⟨h1.trans ht (by simp), h2, h3, a, h4.quiet ht, h5, h6.tch ht (by simp)⟩
theorem wx_uint {w u : World} {b xb : Nat} {bs : List Int} {cs : List Value} (h : WX w u b bs xb cs) {n : Nat} (hn : n < 18446744073709551616) (hl : bs.length + 10 ≤ 140737488355328) {K : World → Prop} (hK : ∀ u', WX w u' b (bs ++ uv n) xb cs → K u') :
    Calls Try.prog 59 #[.pointer (some ⟨b, 0, none⟩), .int .u64 n] u fun e u' => e = .returned (.tuple #[]) ∧ K u' := by
  obtain ⟨h1, h2, h3, a, h4, h5, h6⟩ := h
  refine (uint_c u b a bs n h4 hn hl).mono ?_
  rintro e u' ⟨rfl, hr⟩
  exact ⟨rfl, hK u' (WX.step h1 h2 h3 h4 h5 h6 hr)⟩
theorem wx_int {w u : World} {b xb : Nat} {bs : List Int} {cs : List Value} (h : WX w u b bs xb cs) {n : Int} (hn : I64 n) (hl : bs.length + 10 ≤ 140737488355328) {K : World → Prop} (hK : ∀ u', WX w u' b (bs ++ iv n) xb cs → K u') :
    Calls Try.prog 60 #[.pointer (some ⟨b, 0, none⟩), .int .i64 n] u fun e u' => e = .returned (.tuple #[]) ∧ K u' := by
  obtain ⟨h1, h2, h3, a, h4, h5, h6⟩ := h
  refine (int_c u b a bs n h4 hn hl).mono ?_
  rintro e u' ⟨rfl, hr⟩
  exact ⟨rfl, hK u' (WX.step h1 h2 h3 h4 h5 h6 hr)⟩
theorem wx_raw {w u : World} {b xb : Nat} {bs ys : List Int} {cs : List Value} (h : WX w u b bs xb cs) {xa : Option Addr} {xn xc : Nat} (hx : RSl u 1 xa xn xc (u8 ys)) (hl : bs.length + xn ≤ 140737488355328) {K : World → Prop} (hK : ∀ u', WX w u' b (bs ++ ys) xb cs → K u') :
    Calls Try.prog 62 #[.pointer (some ⟨b, 0, none⟩), .slice xa xn xc] u fun e u' => e = .returned (.tuple #[]) ∧ K u' := by
  obtain ⟨h1, h2, h3, a, h4, h5, h6⟩ := h
  refine (raw_c u b a bs ys xa xn xc h4 hx hl).mono ?_
  rintro e u' ⟨rfl, hr⟩
  exact ⟨rfl, hK u' (WX.step h1 h2 h3 h4 h5 h6 hr)⟩
theorem map_take_succ {α : Type} {f : α → List Int} {l : List α} {j : Nat} {x : α} (h : l[j]? = some x) : ((l.take (j + 1)).map f).flatten = ((l.take j).map f).flatten ++ f x := by
  rw [List.take_add_one, h]
  simp
theorem flat_take {α : Type} {f : α → List Int} {k j : Nat} {l : List α} (h : ∀ x ∈ l, (f x).length ≤ k) : ((l.take j).map f).flatten.length ≤ j * k := by
  have h1 := flat_len (l := l.take j) fun x hx => h x (List.mem_of_mem_take hx)
  have h2 : (l.take j).length * k ≤ j * k := Nat.mul_le_mul_right _ (List.length_take_le _ _)
  omega
theorem zc125 : zc Try.prog 125 = [.slice none 0 0, .slice none 0 0] := by kernel_rfl
theorem encode_c {F : Nat → Prop} (w : World) (a : Option Addr) (n c : Nat) (l : List Tx) (h : BatchV F w a n c l) :
    Calls Try.prog 36 #[.slice a n c] w fun e w' => BytesR w (encB l) e w' := by
  have hn := h.count
  refine c36 _ _ _ ?_
  unfold d36
  refine (first_c w a n c l h).mono ?_
  rintro e w2 ⟨rfl, ht⟩
  refine ⟨_, _, rfl, _, rfl, _, rfl, ?_⟩
  by_cases h0 : (firstS l).2 = 0
  rotate_left
  · rw [bif_nneg h0]
    unfold encB
    rw [if_pos h0]
    exact ⟨none, 0, rfl, own_nil _ _ _ _, ht⟩
  rw [bif_npos h0]
  have hgood := (firstS_zero l).1 h0
  have hok := h.ok
  rw [encB_good hgood]
  refine (new_c w2).mono ?_
  rintro e w8 ⟨rfl, hW, ht8⟩
  have hb := ht.size
  generalize w2.heap.size = b at *
  refine ⟨_, rfl, ?_⟩
  rw [wrap_u64 (by omega) (by omega)]
  refine (uint_c w8 b none [] n hW (by omega) (by simp)).mono ?_
  rintro e w11 ⟨rfl, hR⟩
  have hO := WO.step (ht.trans ht8 (by simp)) hb hW hR
  rw [List.nil_append] at hO
  clear hR hW ht8 ht
  refine ⟨rfl, ?_⟩
  have hun := (uv_len10 (n := n) (by omega)).2
  refine ⟨fun m x u => ∃ i : Nat, x = i ∧ i ≤ n ∧ m = n - i ∧ WO w u b (uv n ++ encTxs (l.take i)), ⟨n, 0, rfl, by omega, rfl, by simpa [encTxs] using hO⟩, ?_⟩
  clear hO
  rintro m w14 x ⟨i, rfl, hi, rfl, hO⟩
  have hlen : (encTxs (l.take i)).length ≤ i * 520 := flat_take fun x hx => encTx_len (hok x hx) (hgood.2 x hx)
  by_cases hlt : i < n
  rotate_left
  · obtain rfl : i = n := by omega
    rw [bif_neg (by omega)]
    rw [List.take_of_length_le (by omega)] at hO hlen
    obtain ⟨ht, _, a1, hW⟩ := hO
    refine (out_c w14 b a1 _ hW (by rw [List.length_append]; omega)).mono ?_
    rintro e w67 ⟨a2, c2, rfl, hown, ht2⟩
    refine ⟨_, _, _, rfl, ?_⟩
    rw [hn]
    exact ⟨a2, c2, rfl, own_base hown ht.size, ht.trans ht2 (by simp)⟩
  rw [bif_pos (by omega)]
  refine ⟨by omega, by omega, ?_⟩
  rw [Int.toNat_natCast]
  have hli : l[i]? = some (l[i]'(by omega)) := List.getElem?_eq_getElem (by omega)
  generalize l[i]'(by omega) = x at hli
  have hxg := hgood.2 x (List.mem_of_getElem? hli)
  have hxo := hok x (List.mem_of_getElem? hli)
  obtain ⟨gp, ga, gr, gw, gR, gW⟩ := hxg
  refine h.elemW hO.1 hli fun v hv => ?_
  refine var_init (n := 4) (by rw [zcTx]; rfl) hv.len hv.ones fun w18 w19 h1 h2 h3 => ?_
  have hX : WX w w19 b (uv n ++ encTxs (l.take i)) w14.heap.size v := by
    obtain ⟨ht, hb, a1, hW⟩ := hO
    refine ⟨ht.trans h2 (by simp), hb, hW.lt, a1, hW.quiet h2, fun hm => ?_, h1⟩
    rcases List.mem_cons.1 hm with hm | hm
    · have := hW.lt; omega
    · have := (hW.row _ hm).2; omega
  clear h1 h2 h3
  generalize w14.heap.size = xb at *
  have hpre : (uv n ++ encTxs (l.take i)).length ≤ 40000 := by rw [List.length_append]; omega
  have hnew : uv n ++ encTxs (l.take (i + 1)) = (uv n ++ encTxs (l.take i)) ++ encTx x := by
    unfold encTxs
    rw [map_take_succ hli, List.append_assoc]
  generalize uv n ++ encTxs (l.take i) = pre at *
  generalize hpost : uv n ++ encTxs (l.take (i + 1)) = post at *
  obtain ⟨a1, n1, c1, a2, n2, c2, a3, n3, c3, rfl, h1, h2, h3, _⟩ := hv
  have e1 := args_count h1
  have e2 := keys_count h2
  have e3 := keys_count h3
  have cell : ∀ {u : World} {bs : List Int}, WX w u b bs xb [.int .i64 x.proc, .slice a1 n1 c1, .slice a2 n2 c2, .slice a3 n3 c3] → Blk u xb [.int .i64 x.proc, .slice a1 n1 c1, .slice a2 n2 c2, .slice a3 n3 c3] := fun h => by
    obtain ⟨_, _, _, _, _, _, hx⟩ := h
    exact hx
  have lit : ∀ {ys : List Int}, I64 0 := by unfold I64; simp
  clear lit
  refine ⟨x.proc, by rw [add_mk]; exact (cell hX).cell 0, ?_⟩
  rw [wrap_u64 (by omega) (by omega), show x.proc = ((x.proc.toNat : Nat) : Int) by omega]
  refine wx_uint hX (by omega) (by omega) fun w22 hX => ?_
  have lp := (uv_len10 (n := x.proc.toNat) (by omega)).2
  refine ⟨a1, n1, c1, by rw [add_mk]; exact (cell hX).cell 1, ?_⟩
  rw [wrap_u64 (by omega) (by omega)]
  refine wx_uint hX (by omega) (by rw [List.length_append]; omega) fun w25 hX => ?_
  have la := (uv_len10 (n := n1) (by omega)).2
  refine ⟨a1, n1, c1, by rw [add_mk]; exact (cell hX).cell 1, ?_⟩
  have hp2 : (pre ++ uv x.proc.toNat ++ uv n1).length ≤ 40020 := by simp only [List.length_append]; omega
  have hfin : post = (pre ++ uv x.proc.toNat ++ uv n1) ++ ((x.args.map iv).flatten ++ (encKs x.reads ++ encKs x.writes)) := by
    rw [hnew]
    unfold encTx
    rw [e1]
    simp only [List.append_assoc]
  generalize pre ++ uv x.proc.toNat ++ uv n1 = pre2 at *
  clear hnew hpre
  have hiv : ∀ v ∈ x.args, (iv v).length ≤ 10 := fun v hv => (uv_len10 (fold_range (hxo.args v hv))).2
  refine ⟨fun m k u => ∃ j : Nat, k = j ∧ j ≤ n1 ∧ m = n1 - j ∧ WX w u b (pre2 ++ ((x.args.take j).map iv).flatten) xb [.int .i64 x.proc, .slice a1 n1 c1, .slice a2 n2 c2, .slice a3 n3 c3], ⟨n1, 0, rfl, by omega, rfl, by simpa using hX⟩, ?_⟩
  clear hX
  rintro m w29 k ⟨j, rfl, hj, rfl, hX⟩
  have hja := flat_take (j := j) hiv
  by_cases hjn : j < n1
  · rw [bif_pos (by omega)]
    refine ⟨by omega, by omega, ?_⟩
    rw [Int.toNat_natCast]
    have hvj : x.args[j]? = some (x.args[j]'(by omega)) := List.getElem?_eq_getElem (by omega)
    obtain ⟨b1, o1, rfl, hc⟩ := (h1.tch hX.1 (by simp)).1.int (i := j) hjn
    show ∃ _, _
    rw [add_mk, Nat.mul_one]
    refine ⟨_, hc, ?_⟩
    rw [show x.args.getD j 0 = x.args[j]'(by omega) by simp [List.getD_eq_getElem?_getD, hvj]]
    generalize x.args[j]'(by omega) = v at hvj
    refine wx_int hX (hxo.args v (List.mem_of_getElem? hvj)) (by rw [List.length_append]; omega) fun w34 hX => ?_
    refine ⟨n1 - (j + 1), by omega, j + 1, by rw [wrap_i64 (by omega) (by omega)]; omega, by omega, rfl, ?_⟩
    rw [map_take_succ hvj, ← List.append_assoc]
    exact hX
  rw [bif_neg (by omega)]
  obtain rfl : j = n1 := by omega
  rw [List.take_of_length_le (by omega)] at hX hja
  refine ⟨a2, n2, c2, by rw [add_mk]; exact (cell hX).cell 2, a3, n3, c3, by rw [add_mk]; exact (cell hX).cell 3, [.slice a2 n2 c2, .slice a3 n3 c3], by rw [zc125]; rfl, ?_⟩
  have hp3 : (pre2 ++ (x.args.map iv).flatten).length ≤ 40180 := by rw [List.length_append]; omega
  rw [← List.append_assoc] at hfin
  generalize pre2 ++ (x.args.map iv).flatten = pre3 at *
  clear hp2 hja
  refine ⟨fun m k u => ∃ q : Nat, k = q ∧ q ≤ 2 ∧ m = 2 - q ∧ WX w u b (pre3 ++ (if q = 0 then [] else if q = 1 then encKs x.reads else encKs x.reads ++ encKs x.writes)) xb [.int .i64 x.proc, .slice a1 j c1, .slice a2 n2 c2, .slice a3 n3 c3], ⟨2, 0, rfl, by omega, rfl, by simpa using hX⟩, ?_⟩
  clear hX
  rintro m w41 k ⟨q, rfl, hq, rfl, hX⟩
  by_cases hq2 : q < 2
  rotate_left
  · rw [bif_neg (by omega)]
    refine ⟨n - (i + 1), by omega, i + 1, by rw [wrap_i64 (by omega) (by omega)]; omega, by omega, rfl, ?_⟩
    rw [if_neg (by omega), if_neg (by omega)] at hX
    rw [hpost, hfin]
    exact hX.out
  rw [bif_pos (by omega)]
  obtain ⟨a4, n4, c4, ks, hel, hfr, hri, hki, hn16, hstart, hend⟩ : ∃ (a4 : Option Addr) (n4 c4 : Nat) (ks : List (Int × Int)), ([Value.slice a2 n2 c2, .slice a3 n3 c3] : List Value)[q]? = some (.slice a4 n4 c4) ∧ FR F w 2 a4 n4 c4 (rows kC ks) ∧ RisesS ks ∧ (∀ k ∈ ks, kI k) ∧ ks.length ≤ 16 ∧
      (if q = 0 then [] else if q = 1 then encKs x.reads else encKs x.reads ++ encKs x.writes).length ≤ 170 ∧ (if q + 1 = 0 then [] else if q + 1 = 1 then encKs x.reads else encKs x.reads ++ encKs x.writes) = (if q = 0 then [] else if q = 1 then encKs x.reads else encKs x.reads ++ encKs x.writes) ++ encKs ks := by
    rcases (show q = 0 ∨ q = 1 by omega) with rfl | rfl
    · exact ⟨a2, n2, c2, x.reads, rfl, h2, gR, hxo.reads, gr, by simp, by simp⟩
    · exact ⟨a3, n3, c3, x.writes, rfl, h3, gW, hxo.writes, gw, by simpa using encKs_len gr, by simp⟩
  have e4 := keys_count hfr
  refine ⟨by omega, by omega, a4, n4, c4, by rw [Int.toNat_natCast, Nat.mul_one]; simpa using hel, ?_⟩
  rw [wrap_u64 (by omega) (by omega)]
  refine wx_uint hX (by omega) (by rw [List.length_append]; omega) fun w45 hX => ?_
  have lk := (uv_len10 (n := n4) (by omega)).2
  have hnext : pre3 ++ (if q + 1 = 0 then [] else if q + 1 = 1 then encKs x.reads else encKs x.reads ++ encKs x.writes) = (pre3 ++ (if q = 0 then [] else if q = 1 then encKs x.reads else encKs x.reads ++ encKs x.writes) ++ uv n4) ++ (ks.map fun k => keyB k.1 k.2).flatten := by
    rw [hend, show encKs ks = uv n4 ++ (ks.map fun k => keyB k.1 k.2).flatten by unfold encKs; rw [e4]]
    simp only [List.append_assoc]
  have hp4 : (pre3 ++ (if q = 0 then [] else if q = 1 then encKs x.reads else encKs x.reads ++ encKs x.writes) ++ uv n4).length ≤ 40360 := by simp only [List.length_append]; omega
  generalize pre3 ++ (if q = 0 then [] else if q = 1 then encKs x.reads else encKs x.reads ++ encKs x.writes) ++ uv n4 = pre4 at *
  refine ⟨fun m k u => ∃ p : Nat, k = p ∧ p ≤ n4 ∧ m = n4 - p ∧ WX w u b (pre4 ++ ((ks.take p).map fun k => keyB k.1 k.2).flatten) xb [.int .i64 x.proc, .slice a1 j c1, .slice a2 n2 c2, .slice a3 n3 c3], ⟨n4, 0, rfl, by omega, rfl, by simpa using hX⟩, ?_⟩
  clear hX
  rintro m w48 k ⟨p, rfl, hp, rfl, hX⟩
  have hkp := flat_take (l := ks) (f := fun k => keyB k.1 k.2) (k := 10) (j := p) fun x _ => Nat.le_of_eq (keyB_length _ _)
  by_cases hpn : p < n4
  rotate_left
  · rw [bif_neg (by omega)]
    rw [List.take_of_length_le (by omega)] at hX
    refine ⟨2 - (q + 1), by omega, q + 1, by rw [wrap_i64 (by omega) (by omega)]; omega, by omega, rfl, ?_⟩
    rw [hnext]
    exact hX
  rw [bif_pos (by omega)]
  refine ⟨by omega, by omega, ?_⟩
  rw [Int.toNat_natCast]
  have hkq : ks[p]? = some (ks[p]'(by omega)) := List.getElem?_eq_getElem (by omega)
  generalize ks[p]'(by omega) = k at hkq
  refine (hfr.tch hX.1 (by simp)).1.elem kC_len (by omega) hkq ?_
  refine var_init (n := 2) (by rw [zcKey]; rfl) rfl kC_one fun w52 w53 g1 g2 _ => ?_
  replace hX := hX.quiet g2
  refine get_all g1 rfl ?_
  refine (bytes_c k.1 k.2 w53).mono ?_
  rintro e w56 hk
  rw [if_pos (hri.1 k (List.mem_of_getElem? hkq))] at hk
  obtain ⟨ka, kc, rfl, hkb, ht5⟩ := hk
  replace hX := hX.quiet ht5
  refine ⟨_, _, _, _, rfl, _, _, _, rfl, _, rfl, ?_⟩
  refine wx_raw hX (own_rsl hkb ones_ints) (by rw [List.length_append]; omega) fun w62 hX => ?_
  refine ⟨n4 - (p + 1), by omega, p + 1, by rw [wrap_i64 (by omega) (by omega)]; omega, by omega, rfl, ?_⟩
  rw [map_take_succ (f := fun k : Int × Int => keyB k.1 k.2) hkq, ← List.append_assoc]
  exact hX
end Go.Proofs.Ytjchneebdlncfaa.Lib
