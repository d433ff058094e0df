/-
  FRAMES, THERE AND BACK; a frame with a byte changed is none.
  A MERGER's Next AND Has: their contracts.
  THE CODE of some functions of the given program, resolved, and proved to ask what the readable texts (d..) say; contracts c.. follow. Printed by a small program of mine.
  MERGE's LAWS, the small functions: put, sameTx, sameBatch, SamePiece.
  MERGE's LAWS: histories in memory; contracts of inputs, first, epochs, batch, piece.
  Own work. No macro, syntax, notation, axiom.
-/
import Derived.Test.YtjchneebdlncfaaDoorFormPk11
import Derived.Test.YtjchneebdlncfaaDoorFormPk8
import Derived.Test.YtjchneebdlncfaaDoorFormPk9
import Derived.Test.YtjchneebdlncfaaDoorProg
namespace Go.Proofs.YtjchneebdlncfaaDoor.Lib
open Go Den
open Classical
set_option maxRecDepth 8000
theorem nm_there {ld r : List Int} {p : Nat} {i n : Int} (h : ld.drop p = twoB i n ++ r) (hn : nameE i n = 0) : nmK ld p 0 = (i, n) ∧ nmB ld p 0 = (n.toNat, p + (twoB i n).length, 0) ∧ NmOk ld p 0 := by
  obtain ⟨h0, h1, h2, h3⟩ := nameE_ok hn
  unfold twoB at h
  rw [List.append_assoc] at h
  have eA : nmA ld p 0 = (i.toNat, p + (uv i.toNat).length, 0) := rUpto_uv h (by omega) (by omega)
  have eB : nmB ld p 0 = (n.toNat, p + (twoB i n).length, 0) := by
    unfold nmB
    rw [eA]
    simp only
    rw [rUpto_uv (drop_step h) (by omega) (by omega)]
    unfold twoB
    rw [List.length_append, Nat.add_assoc]
  refine ⟨?_, eB, ?_⟩
  · unfold nmK
    rw [eA, eB]
    exact Prod.ext (by simp only; omega) (by simp only; omega)
  · unfold NmOk
    rw [eB]
    exact ⟨rfl, by simp only; omega⟩
theorem nm_back {ld : List Int} (hB : Bytes ld) {p : Nat} (h : NmOk ld p 0) : nameE (nmK ld p 0).1 (nmK ld p 0).2 = 0 ∧ ld.drop p = twoB (nmK ld p 0).1 (nmK ld p 0).2 ++ ld.drop (nmB ld p 0).2.1 := by
  obtain ⟨h1, h2⟩ := h
  have hA : (nmA ld p 0).2.2 = 0 := Classical.byContradiction fun hh => by
    unfold nmB rUpto at h1
    rw [if_pos hh] at h1
    exact hh h1
  have a := rUpto_back hB (most := 15) (p := p) hA
  have hb : nmB ld p 0 = rUpto ld 1099511627776 (nmA ld p 0).2.1 0 := by unfold nmB; rw [hA]
  have b := rUpto_back hB (most := 1099511627776) (p := (nmA ld p 0).2.1) (by rw [← hb]; exact h1)
  rw [← hb] at b
  change (nmA ld p 0).1 ≤ 15 ∧ _ ∧ ld.drop p = uv (nmA ld p 0).1 ++ ld.drop (nmA ld p 0).2.1 at a
  refine ⟨?_, ?_⟩
  · unfold nmK nameE EpOk Ep
    rw [if_neg (by simp only; omega), if_neg (by simp only; omega)]
  · unfold nmK twoB
    simp only [Int.toNat_natCast, List.append_assoc]
    rw [← b.2.2]
    exact a.2.2
theorem pieceE_some {i n : Int} {l : List Tx} (h : (pieceE i n l).2 = 0) : nameE i n = 0 ∧ (encB l).2 = 0 ∧ (pieceE i n l).1 = sealS 77 (twoB i n ++ (encB l).1) := by
  unfold pieceE at h ⊢
  by_cases h1 : nameE i n ≠ 0
  · rw [if_pos h1] at h; exact absurd h h1
  rw [if_neg h1] at h ⊢
  by_cases h2 : (encB l).2 ≠ 0
  · rw [if_pos h2] at h; exact absurd h h2
  rw [if_neg h2] at h ⊢
  exact ⟨by simpa using h1, by simpa using h2, rfl⟩
theorem load_seal {k kind : Int} {l : List Int} (h : l.length ≤ 16777216) : loadS (sealS k l) kind = if k = kind then some l else none := by
  unfold loadS
  rw [unsl_seal h]
  by_cases hk : k = kind
  · rw [if_pos ⟨rfl, rfl, hk⟩, if_pos hk]
  · rw [if_neg (fun hh => hk hh.2.2), if_neg hk]
theorem load_back {bs ld : List Int} (hB : Bytes bs) {kind : Int} (h : loadS bs kind = some ld) : bs = sealS kind ld := by
  unfold loadS at h
  split at h
  · rename_i hh
    cases h
    exact (seal_unsl hB (k := kind) (Prod.ext hh.2.2 (Prod.ext rfl (Prod.ext hh.2.1 hh.1)))).1
  · cases h
theorem pieceE_load {i n : Int} {l : List Tx} (ho : ∀ x ∈ l, x.ok) (h1 : nameE i n = 0) (h2 : (encB l).2 = 0) : (twoB i n ++ (encB l).1).length ≤ 40020 := by
  have := twoB_len h1
  have := encB_len ho h2
  rw [List.length_append]
  omega
/-- A piece's frame is decoded to what it was, and is no frame of wants. -/
theorem piece_there {i n : Int} {l : List Tx} (ho : ∀ x ∈ l, x.ok) (h : (pieceE i n l).2 = 0) : pieceD (pieceE i n l).1 = some (i, n, l) ∧ wantsD (pieceE i n l).1 = none := by
  obtain ⟨h1, h2, h3⟩ := pieceE_some h
  have hl := pieceE_load ho h1 h2
  rw [h3]
  unfold pieceD wantsD
  rw [load_seal (by omega), load_seal (by omega), if_pos rfl, if_neg (by omega)]
  refine ⟨?_, rfl⟩
  show pieceL _ = _
  have e0 : (twoB i n ++ (encB l).1).drop 0 = twoB i n ++ (encB l).1 := rfl
  obtain ⟨a1, a2, a3⟩ := nm_there e0 h1
  unfold pieceL
  rw [if_pos a3, a2]
  simp only
  rw [drop_step e0, dec_enc h2 ho, if_pos rfl, a1]
/-- What is decoded to a piece is its frame. -/
theorem piece_back {bs : List Int} (hB : Bytes bs) {i n : Int} {l : List Tx} (h : pieceD bs = some (i, n, l)) : pieceE i n l = (bs, 0) := by
  unfold pieceD at h
  cases hld : loadS bs 77 with
  | none => rw [hld] at h; cases h
  | some ld =>
    rw [hld, Option.bind_some] at h
    have hLB := loadB hld hB
    unfold pieceL at h
    split at h
    · rename_i hok
      split at h
      · rename_i hd
        obtain ⟨b1, b2⟩ := nm_back hLB hok
        simp only [Option.some.injEq, Prod.mk.injEq] at h
        obtain ⟨rfl, rfl, rfl⟩ := h
        have he := enc_dec (hLB.drop (nmB ld 0 0).2.1) hd
        unfold pieceE
        rw [if_neg (by simpa using b1), he, if_neg (by simp)]
        simp only
        rw [← b2, List.drop_zero, ← load_back hB hld]
      · cases h
    · cases h
theorem wantsG_zero : ∀ {l : List (Int × Int)}, (wantsG l).2 = 0 → ∀ k ∈ l, nameE k.1 k.2 = 0
  | [], _, k, hk => by simp at hk
  | x :: l, h, k, hk => by
    unfold wantsG at h
    by_cases h1 : nameE x.1 x.2 ≠ 0
    · rw [if_pos h1] at h; exact absurd h h1
    rw [if_neg h1] at h
    by_cases h2 : (wantsG l).2 ≠ 0
    · rw [if_pos h2] at h; exact absurd h h2
    rcases List.mem_cons.1 hk with rfl | hk
    · simpa using h1
    · exact wantsG_zero (by simpa using h2) k hk
theorem wantsE_some {l : List (Int × Int)} (h : (wantsE l).2 = 0) : l.length ≤ 1024 ∧ (∀ k ∈ l, nameE k.1 k.2 = 0) ∧ (wantsE l).1 = sealS 87 (uv l.length ++ (l.map wB).flatten) := by
  have hn : ¬ 1024 < l.length := fun hh => by rw [wantsE_big hh] at h; simp at h
  have hz : (wantsG l).2 = 0 := Classical.byContradiction fun hh => by
    unfold wantsE at h
    rw [if_neg hn, if_pos hh] at h
    exact hh h
  have hg := wantsG_zero hz
  exact ⟨by omega, hg, by rw [wantsE_good hn hg]⟩
theorem wGo_there {ld r : List Int} (hr : r = []) : ∀ {l : List (Int × Int)} {p : Nat} {acc : List (Int × Int)}, ld.drop p = (l.map wB).flatten ++ r → (∀ k ∈ l, nameE k.1 k.2 = 0) → wGo ld l.length p acc = some (acc ++ l)
  | [], p, acc, h, _ => by
    subst hr
    have : ld.length ≤ p := List.drop_eq_nil_iff.1 (by simpa using h)
    show (if p < ld.length then none else some acc) = _
    rw [if_neg (by omega), List.append_nil]
  | k :: l, p, acc, h, hg => by
    rw [List.map_cons, List.flatten_cons, List.append_assoc] at h
    obtain ⟨a1, a2, a3⟩ := nm_there (show ld.drop p = twoB k.1 k.2 ++ _ from h) (hg k (by simp))
    show (if NmOk ld p 0 then wGo ld l.length (nmB ld p 0).2.1 (acc ++ [nmK ld p 0]) else none) = _
    rw [if_pos a3, a2, a1]
    simp only
    rw [wGo_there hr (l := l) (drop_step (show ld.drop p = twoB k.1 k.2 ++ _ from h)) (fun x hx => hg x (by simp [hx]))]
    simp
theorem wants_there {l : List (Int × Int)} (h : (wantsE l).2 = 0) : wantsD (wantsE l).1 = some l ∧ pieceD (wantsE l).1 = none := by
  obtain ⟨h1, h2, h3⟩ := wantsE_some h
  have hu := (uv_len10 (n := l.length) (by omega)).2
  have hf := wB_flat h2
  rw [h3]
  unfold pieceD wantsD
  have hl : (uv l.length ++ (l.map wB).flatten).length ≤ 16777216 := by rw [List.length_append]; omega
  rw [load_seal hl, load_seal hl, if_pos rfl, if_neg (by omega)]
  refine ⟨?_, rfl⟩
  show wantsL _ = _
  have e0 : (uv l.length ++ (l.map wB).flatten).drop 0 = uv l.length ++ (l.map wB).flatten := rfl
  unfold wantsL
  rw [rUpto_uv e0 h1 (by omega), if_neg (by simp)]
  simp only
  rw [wGo_there rfl (by rw [List.append_nil]; exact drop_step e0) h2, List.nil_append]
theorem wGo_back {ld : List Int} (hB : Bytes ld) : ∀ {m p : Nat} {acc L : List (Int × Int)}, wGo ld m p acc = some L → p ≤ ld.length → ∃ l, L = acc ++ l ∧ l.length = m ∧ (∀ k ∈ l, nameE k.1 k.2 = 0) ∧ ld.drop p = (l.map wB).flatten
  | 0, p, acc, L, h, hp => by
    unfold wGo at h
    split at h
    · cases h
    · cases h
      exact ⟨[], by simp, rfl, by simp, List.drop_of_length_le (by omega)⟩
  | m + 1, p, acc, L, h, hp => by
    unfold wGo at h
    split at h
    · rename_i hok
      obtain ⟨b1, b2⟩ := nm_back hB hok
      obtain ⟨l, g1, g2, g3, g4⟩ := wGo_back hB h (nm_le (e := 0) hB hp).1
      refine ⟨nmK ld p 0 :: l, by rw [g1]; simp, by simp [g2], fun k hk => ?_, ?_⟩
      · rcases List.mem_cons.1 hk with rfl | hk
        · exact b1
        · exact g3 k hk
      · rw [List.map_cons, List.flatten_cons, ← g4]
        exact b2
    · cases h
theorem wants_back {bs : List Int} (hB : Bytes bs) {l : List (Int × Int)} (h : wantsD bs = some l) : wantsE l = (bs, 0) := by
  unfold wantsD at h
  cases hld : loadS bs 87 with
  | none => rw [hld] at h; cases h
  | some ld =>
    rw [hld, Option.bind_some] at h
    have hLB := loadB hld hB
    unfold wantsL at h
    split at h
    · cases h
    · rename_i h1
      have a := rUpto_back hLB (most := 1024) (p := 0) (by simpa using h1)
      have hle := rUpto_le hLB (most := 1024) (e := 0) (p := 0) (by omega)
      obtain ⟨l', g1, g2, g3, g4⟩ := wGo_back hLB h hle.1
      rw [List.nil_append] at g1
      subst g1
      rw [wantsE_good (by omega) g3, g2, ← g4, ← a.2.2, List.drop_zero, ← load_back hB hld]
theorem sealS_bytes {k : Int} (hk : 0 ≤ k ∧ k < 256) {l : List Int} (hl : Bytes l) : Bytes (sealS k l) := by
  unfold sealS
  split
  · intro x hx; simp at hx
  · exact ((((Bytes.one hk.1 hk.2).append (fourS_bytes _)).append (fourS_bytes _)).append hl).append (fourS_bytes _)
/-- A piece's frame with its middle byte changed is none. -/
theorem piece_changed {i n : Int} {l : List Tx} (ho : ∀ x ∈ l, x.ok) (h : (pieceE i n l).2 = 0) {v : Int} (hv : 0 ≤ v ∧ v < 256) (hne : v ≠ (pieceE i n l).1.getD ((pieceE i n l).1.length / 2) 0) : pieceD ((pieceE i n l).1.set ((pieceE i n l).1.length / 2) v) = none ∧ 16 ≤ (pieceE i n l).1.length := by
  obtain ⟨h1, h2, h3⟩ := pieceE_some h
  have hl := pieceE_load ho h1 h2
  have hBl : Bytes (twoB i n ++ (encB l).1) := (twoB_bytes _ _).append (encB_bytes h2)
  have hlen : 3 ≤ (twoB i n ++ (encB l).1).length := by
    obtain ⟨x0, x1, x2, x3⟩ := nameE_ok h1
    have a1 := (uv_len10 (n := i.toNat) (by omega)).1
    have a2 := (uv_len10 (n := n.toNat) (by omega)).1
    have hg := (encB_zero l).1 h2
    have a3 := (uv_len10 (n := l.length) (by have := hg.1; omega)).1
    rw [encB_good hg]
    unfold twoB
    simp only [List.length_append]
    omega
  rw [h3] at hne ⊢
  generalize hLd : twoB i n ++ (encB l).1 = ld at *
  have hB : Bytes (sealS 77 ld) := sealS_bytes (by omega) hBl
  have hU := unsl_seal (k := 77) (l := ld) (by omega)
  have hlen2 := sealS_length (k := 77) (l := ld) (by omega)
  have hw : word (sealS 77 ld) 1 = ld.length := by
    rw [sealS_some (by omega)]
    have := word_at (x := (ld.length : Int)) (by omega) (by omega) [77] (fourS (crc (headS 77 ld.length)) ++ (ld ++ fourS (crc ld)))
    generalize fourS (crc (headS 77 ld.length)) = z at *
    unfold headS
    simpa only [List.append_assoc, List.length_singleton] using this
  have hc := unsl_changed hB (by rw [hU]) (i := (sealS 77 ld).length / 2) (by omega) (by rw [hw]; omega) hv hne
  refine ⟨?_, by omega⟩
  unfold pieceD loadS
  rw [if_neg (fun hh => hc hh.1)]
  rfl
end Go.Proofs.YtjchneebdlncfaaDoor.Lib
namespace Go.Proofs.YtjchneebdlncfaaDoor.Lib
open Go Den Fn
open Go.RowKit (Below)
open Classical
set_option maxRecDepth 8000
set_option maxHeartbeats 1000000
/-- A slice's value that is a batch. -/
def SlV (F : Nat → Prop) (w : World) (v : Value) (l : List Tx) : Prop := ∃ a n c, v = .slice a n c ∧ BatchV F w a n c l
def SlsV (F : Nat → Prop) (w : World) : List Value → List (List Tx) → Prop
  | [], [] => True
  | v :: vs, l :: ls => SlV F w v l ∧ SlsV F w vs ls
  | _, _ => False
section
variable {F G : Nat → Prop} {w w' : World} {s : List Nat}
theorem SlsV.tch (ht : Tch s w w') (hs : ∀ k ∈ s, ¬ F k) : ∀ {vs : List Value} {ls : List (List Tx)}, SlsV F w vs ls → SlsV F w' vs ls
  | [], [], _ => trivial
  | [], _ :: _, h => h.elim
  | _ :: _, [], h => h.elim
  | _ :: _, _ :: _, h => ⟨by obtain ⟨⟨a, n, c, h1, h2⟩, _⟩ := h; exact ⟨a, n, c, h1, h2.tch ht hs⟩, SlsV.tch ht hs h.2⟩
theorem SlsV.length : ∀ {vs : List Value} {ls : List (List Tx)}, SlsV F w vs ls → vs.length = ls.length
  | [], [], _ => rfl
  | [], _ :: _, h => h.elim
  | _ :: _, [], h => h.elim
  | _ :: _, _ :: _, h => by simp [SlsV.length h.2]
theorem SlsV.push {v : Value} {l : List Tx} (hv : SlV F w v l) : ∀ {vs : List Value} {ls : List (List Tx)}, SlsV F w vs ls → SlsV F w (vs ++ [v]) (ls ++ [l])
  | [], [], _ => ⟨hv, trivial⟩
  | [], _ :: _, h => h.elim
  | _ :: _, [], h => h.elim
  | _ :: _, _ :: _, h => ⟨h.1, SlsV.push hv h.2⟩
theorem SlsV.get : ∀ {vs : List Value} {ls : List (List Tx)}, SlsV F w vs ls → ∀ {i : Nat} {l : List Tx}, ls[i]? = some l → ∃ a n c, vs[i]? = some (.slice a n c) ∧ BatchV F w a n c l
  | [], [], _, i, l, h => by simp at h
  | [], _ :: _, h, _, _, _ => h.elim
  | _ :: _, [], h, _, _, _ => h.elim
  | v :: vs, l' :: ls, h, 0, l, hl => by
    simp only [List.getElem?_cons_zero, Option.some.injEq] at hl
    subst hl
    obtain ⟨⟨a, n, c, h1, h2⟩, _⟩ := h
    exact ⟨a, n, c, by rw [h1]; rfl, h2⟩
  | v :: vs, l' :: ls, h, i + 1, l, hl => by
    simp only [List.getElem?_cons_succ] at hl ⊢
    exact SlsV.get h.2 hl
theorem SlsV.ones : ∀ {vs : List Value} {ls : List (List Tx)}, SlsV F w vs ls → ∀ u ∈ vs, one u = true
  | [], _, _, _, h => by cases h
  | _ :: _, [], h, _, _ => h.elim
  | v :: vs, l :: ls, h, u, hu => by
    rcases List.mem_cons.1 hu with rfl | hu
    · obtain ⟨⟨a, n, c, h1, h2⟩, _⟩ := h
      rw [h1]; rfl
    · exact SlsV.ones h.2 u hu
end
/-- Batches in a row. -/
def BatsV (F : Nat → Prop) (w : World) (a : Option Addr) (n c : Nat) (ls : List (List Tx)) : Prop := ∃ vs, RSl w 1 a n c vs ∧ SlsV F w vs ls
theorem BatsV.count {F : Nat → Prop} {w : World} {a : Option Addr} {n c : Nat} {ls : List (List Tx)} (h : BatsV F w a n c ls) : ls.length = n := by
  obtain ⟨vs, h1, h2⟩ := h
  have := h1.len
  have := h2.length
  omega
theorem BatsV.elem {F : Nat → Prop} {w : World} {a : Option Addr} {n c : Nat} {ls : List (List Tx)} (h : BatsV F w a n c ls) {i : Nat} {l : List Tx} (hl : ls[i]? = some l) {K : Option Addr → Nat → Nat → Prop} (hK : ∀ x m d, BatchV F w x m d l → K x m d) :
    optK a fun y => ∃ (x : Option Addr) (xn xc : Nat), World.cell? w (Addr.add y (i * 1)) = some (.slice x xn xc) ∧ K x xn xc := by
  obtain ⟨vs, h1, h2⟩ := h
  obtain ⟨x, m, d, hv, hB⟩ := h2.get hl
  have hlt := (List.getElem?_eq_some_iff.1 hl).1
  rcases h1.at' with h' | ⟨b, o, rfl, hc⟩
  · have := h1.cap; have := h1.len; have := h2.length; omega
  · refine ⟨x, m, d, ?_, hK x m d hB⟩
    have := hc i _ hv
    rw [Nat.mul_one]
    exact this
/-- The batches of an epoch, in its order: those of the first n inputs. -/
noncomputable def outS (g : Mg) : Nat → Option (List (List Tx))
  | 0 => some []
  | n + 1 => (outS g n).bind fun ls => (pGet g.ps ((g.e - 1 + n) % g.k, g.e)).map fun l => ls ++ [l]
noncomputable def delS (ps : Pcs) (e : Int) : Nat → Pcs
  | 0 => ps
  | n + 1 => pDel (delS ps e n) ((n : Int), e)
noncomputable def nextS (g : Mg) : Mg × Option (List (List Tx)) :=
  if ¬ Ep g.e then (g, none) else
  match outS g g.k.toNat with
  | none => (g, none)
  | some ls => (⟨g.k, g.e + 1, g.top, delS g.ps g.e g.k.toNat⟩, some ls)
theorem outS_none {g : Mg} {n : Nat} : ∀ {m : Nat}, n ≤ m → outS g n = none → outS g m = none
  | 0, h, hn => by obtain rfl : n = 0 := by omega
                   exact hn
  | m + 1, h, hn => by
    rcases Nat.eq_or_lt_of_le h with rfl | hlt
    · exact hn
    · unfold outS
      rw [outS_none (m := m) (by omega) hn]
      rfl
theorem pDel_mem {ps : Pcs} {k : Int × Int} {q : (Int × Int) × List Tx} (h : q ∈ pDel ps k) : q ∈ ps := by
  induction ps with
  | nil => exact h
  | cons x r ih =>
    unfold pDel at h
    split at h
    · exact List.mem_cons_of_mem _ h
    · rcases List.mem_cons.1 h with rfl | h
      · simp
      · exact List.mem_cons_of_mem _ (ih h)
theorem delS_mem {ps : Pcs} {e : Int} : ∀ {n : Nat} {q : (Int × Int) × List Tx}, q ∈ delS ps e n → q ∈ ps
  | 0, _, h => h
  | n + 1, _, h => delS_mem (pDel_mem h)
theorem PsAt.under {F : Nat → Prop} {w : World} : ∀ {es : Ents} {ps : Pcs}, PsAt F w es ps → PsAt (fun k => F k ∧ k < w.heap.size) w es ps
  | [], [], _ => trivial
  | [], _ :: _, h => h.elim
  | _ :: _, [], h => h.elim
  | _ :: _, _ :: _, h => ⟨by obtain ⟨⟨h1, h2, a, n, c, h3, h4⟩, _⟩ := h; exact ⟨h1, h2, a, n, c, h3, h4.under⟩, PsAt.under h.2⟩
theorem MgAt.under {F : Nat → Prop} {w : World} {mb pb : Nat} {g : Mg} (h : MgAt F w mb pb g) : MgAt (fun k => F k ∧ k < w.heap.size) w mb pb g := by
  obtain ⟨es, h1, h2⟩ := h.map
  exact ⟨h.blk, ⟨es, h1, h2.under⟩, h.ne, ⟨fun hh => h.nF.1 hh.1, fun hh => h.nF.2 hh.1⟩, h.k, h.e, h.top, h.good⟩
theorem SlsV.mono {F G : Nat → Prop} {w : World} (hFG : ∀ k, F k → G k) : ∀ {vs : List Value} {ls : List (List Tx)}, SlsV F w vs ls → SlsV G w vs ls
  | [], [], _ => trivial
  | [], _ :: _, h => h.elim
  | _ :: _, [], h => h.elim
  | _ :: _, _ :: _, h => ⟨by obtain ⟨⟨a, n, c, h1, h2⟩, _⟩ := h; exact ⟨a, n, c, h1, h2.mono hFG⟩, SlsV.mono hFG h.2⟩
/-- What is asked of Next. -/
def NextR (F : Nat → Prop) (w : World) (mb pb : Nat) (g : Mg) (en : Ending) (w' : World) : Prop :=
  MgAt F w' mb pb (nextS g).1 ∧ Tch [mb, pb] w w' ∧
  match (nextS g).2 with
  | none => en = .returned (.tuple #[.slice none 0 0, .bool false])
  | some ls => ∃ a n c, en = .returned (.tuple #[.slice a n c, .bool true]) ∧ BatsV F w' a n c ls ∧ ∀ x, a = some x → w.heap.size ≤ x.block
theorem sT : slT Tryd.prog 117 35 1 24 = true := by kernel_rfl
theorem zcTxs : zc Tryd.prog 35 = [.slice none 0 0] := by kernel_rfl
theorem next_c {F : Nat → Prop} (w : World) (mb pb : Nat) (g : Mg) (h : MgAt F w mb pb g) :
    Calls Tryd.prog 57 #[.pointer (some ⟨mb, 0, none⟩)] w fun en w' => NextR F w mb pb g en w' := by
  obtain ⟨hmb, hpb⟩ := h.lt
  have hk := h.k
  have hge := h.e
  have h' := h.under
  refine c57 _ ?_
  unfold d57
  refine ⟨g.e, h.cell 1, ?_⟩
  refine (epoch_c g.e w).mono ?_
  rintro en w4 ⟨rfl, rfl⟩
  refine ⟨_, rfl, ?_⟩
  by_cases hep : Ep g.e
  rotate_left
  · rw [bif_nneg hep]
    have e : nextS g = (g, none) := by unfold nextS; rw [if_pos hep]
    exact ⟨by rw [e]; exact h, Tch.refl _ _, by rw [e]⟩
  rw [bif_npos hep]
  obtain ⟨K, hK⟩ := Int.eq_ofNat_of_zero_le (show 0 ≤ g.k by omega)
  have none_ : ∀ {u : World} {i : Nat}, i ≤ K → outS g i = none → Tch [] w4 u → NextR F w4 mb pb g (.returned (.tuple #[.slice none 0 0, .bool false])) u := fun hi ho ht => by
    have e : nextS g = (g, none) := by
      unfold nextS
      rw [if_neg (by simpa using hep), outS_none (m := g.k.toNat) (by omega) ho]
    exact ⟨by rw [e]; exact h.quiet ht, ht.weaken (by simp), by rw [e]⟩
  refine ⟨g.k, h.cell 0, ?_⟩
  refine ⟨fun m x xn xc i u => ∃ (q : Nat) (vs : List Value) (ls : List (List Tx)), i = q ∧ q ≤ K ∧ m = K - q ∧ xn = q ∧ outS g q = some ls ∧ ls.length = q ∧ u.ownsRow w4.heap.size 35 1 (.slice x xn xc) xn vs ∧ SlsV (fun k => F k ∧ k < w4.heap.size) u vs ls ∧ Tch [] w4 u,
    ⟨K, 0, [], [], rfl, by omega, rfl, rfl, rfl, rfl, own_nil _ _ _ _, trivial, Tch.refl _ _⟩, ?_⟩
  rintro m w10 x xn xc i ⟨q, vs, ls, rfl, hq, rfl, rfl, ho, hll, hown, hsl, ht⟩
  have hM := h'.quiet ht
  by_cases hlt : xn < K
  · rw [bif_pos (by omega)]
    rintro w13 rfl
    replace ht := ht.drew
    replace hM := hM.quiet ((Tch.refl [] w10).drew)
    replace hown := own_up hown ((Tch.refl [] w10).drew) (fun _ _ h => by cases h)
    replace hsl := hsl.tch ((Tch.refl [] w10).drew) (by simp)
    generalize w10.drew = w13 at *
    refine ⟨some pb, hM.cell 3, g.e, hM.cell 1, g.k, hM.cell 0, by omega, g.e, hM.cell 1, ?_⟩
    rw [wrap_i64 (n := g.e - 1) (by omega) (by omega), wrap_i64 (by omega) (by omega), Int.tmod_eq_emod_of_nonneg (by omega)]
    have hmod : 0 ≤ (g.e - 1 + xn) % g.k ∧ (g.e - 1 + xn) % g.k < g.k := ⟨Int.emod_nonneg _ (by omega), Int.emod_lt_of_pos _ (by omega)⟩
    have hkI : kI ((g.e - 1 + xn) % g.k, g.e) := by
      generalize (g.e - 1 + xn) % g.k = z at hmod
      unfold kI I64
      simp only
      omega
    refine ⟨kC ((g.e - 1 + xn) % g.k, g.e), by rw [zcWant]; rfl, ?_⟩
    obtain ⟨es, hes, hps⟩ := hM.map
    refine ⟨_, mapT.lookup zeroTxs hes hps.fits (want_fits hkI), _, rfl, ?_⟩
    have hstep : outS g (xn + 1) = (outS g xn).bind fun ls => (pGet g.ps ((g.e - 1 + xn) % g.k, g.e)).map fun l => ls ++ [l] := rfl
    rcases hps.get ((g.e - 1 + xn) % g.k, g.e) with ⟨g1, g2⟩ | ⟨l, la, ln, lc, g1, g2, g3⟩
    · rw [g2]
      refine ⟨none, 0, 0, rfl, false, rfl, ?_⟩
      show NextR _ _ _ _ _ _ _
      refine none_ (i := xn + 1) (by omega) ?_ ht
      rw [hstep, ho, g1]
      rfl
    · rw [g2]
      refine ⟨la, ln, lc, rfl, true, rfl, ?_⟩
      show ∃ _, _
      refine app_elem_at sT hown (by rw [zcTxs]; rfl) (ys := [.slice la ln lc]) rfl rfl (by simp [one]) ht.size (by omega) (by omega) fun a5 c5 w32 o5 t5 m5 => ?_
      have hrow := rowL_ge hown
      have tt := ht.trans t5 fun i hi => .inr (hrow i hi).1
      refine ⟨K - (xn + 1), by omega, xn + 1, vs ++ [.slice la ln lc], ls ++ [l], by rw [wrap_i64 (by omega) (by omega)]; omega, by omega, rfl, rfl, by rw [hstep, ho, g1]; rfl, by simp [hll], o5, ?_, tt⟩
      have hno : ∀ k ∈ rowL x, ¬ (F k ∧ k < w4.heap.size) := fun k hk hh => by have := (hrow k hk).1; omega
      exact SlsV.push ⟨la, ln, lc, rfl, g3.tch t5 hno⟩ (hsl.tch t5 hno)
  · rw [bif_neg (by omega)]
    obtain rfl : xn = K := by omega
    have hos : nextS g = (⟨g.k, g.e + 1, g.top, delS g.ps g.e xn⟩, some ls) := by
      unfold nextS
      rw [if_neg (by simpa using hep), show g.k.toNat = xn by omega, ho]
    refine ⟨g.k, hM.cell 0, ?_⟩
    have hrow := rowL_ge hown
    refine ⟨fun m i u => ∃ (q : Nat) (es : Ents), i = q ∧ q ≤ xn ∧ m = xn - q ∧ Blk u mb [.int .i64 g.k, .int .i64 g.e, .int .i64 g.top, .map (some pb)] ∧ MapAt u pb es ∧ PsAt (fun k => F k ∧ k < w4.heap.size) u es (delS g.ps g.e q) ∧
      u.ownsRow w4.heap.size 35 1 (.slice x xn xc) xn vs ∧ SlsV (fun k => F k ∧ k < w4.heap.size) u vs ls ∧ Tch [pb] w4 u, ?_, ?_⟩
    · obtain ⟨es, hes, hps⟩ := hM.map
      exact ⟨xn, 0, es, rfl, by omega, rfl, hM.blk, hes, hps, hown, hsl, ht.weaken (by simp)⟩
    rintro m w39 i ⟨q, es, rfl, hq, rfl, hbk, hes, hps, hown, hsl, ht⟩
    by_cases hqlt : q < xn
    · rw [bif_pos (by omega)]
      rintro w41 rfl
      have td := (Tch.refl [] w39).drew
      replace hbk := hbk.tch td (by simp)
      replace hes := hes.tch td (by simp)
      replace hps := hps.tch td (by simp)
      replace hown := own_up hown td (fun _ _ h => by cases h)
      replace hsl := hsl.tch td (by simp)
      replace ht := ht.trans td (by simp)
      generalize w39.drew = w41 at *
      refine ⟨some pb, by rw [add_mk]; exact hbk.cell 3, g.e, by rw [add_mk]; exact hbk.cell 1, kC ((q : Int), g.e), by rw [zcWant]; rfl, ?_⟩
      refine mapT.del hes hps.fits (want_fits (k := ((q : Int), g.e)) ⟨by unfold I64; simp only; omega, by unfold I64; simp only; omega⟩) fun w48 hmap tm => ?_
      have hpb' : pb ∉ rowL x := fun hm => by have := (hrow pb hm).1; omega
      have hnF : ∀ k ∈ [pb], ¬ (F k ∧ k < w4.heap.size) := fun k hk hh => by simp at hk; rw [hk] at hh; exact h.nF.2 hh.1
      refine ⟨_, rfl, xn - (q + 1), by omega, q + 1, _, by rw [wrap_i64 (by omega) (by omega)]; omega, by omega, rfl, hbk.tch tm (by simpa using h.ne), hmap, ?_, own_up hown tm (fun k hk hm => ?_), hsl.tch tm hnF, ht.trans tm (by simp)⟩
      · exact (PsAt.del _ hps).tch tm hnF
      · simp at hm
        rw [hm] at hk
        refine hpb' ?_
        cases x with
        | none => cases hk
        | some ad => simp only [Value.ownBlock, Option.some.injEq] at hk; simp [rowL, hk]
    · rw [bif_neg (by omega)]
      obtain rfl : q = xn := by omega
      refine ⟨g.e, by rw [add_mk]; exact hbk.cell 1, ?_⟩
      show _ ∧ _
      rw [add_mk, wrap_i64 (by omega) (by omega)]
      refine ⟨rfl, by rw [hbk.cell]; rfl, hbk.frozen _, ?_⟩
      rintro w54 rfl
      have t3 := (Tch.refl [mb] w39).setCell (p := ⟨mb, 0 + 1, none⟩) (.inl (by simp)) (.int .i64 (g.e + 1))
      have hnF : ∀ k ∈ [mb], ¬ (F k ∧ k < w4.heap.size) := fun k hk hh => by simp at hk; rw [hk] at hh; exact h.nF.1 hh.1
      refine ⟨?_, (ht.weaken (t := [mb, pb]) (by simp)).trans t3 (by simp), ?_⟩
      · rw [hos]
        unfold Ep at hep
        refine ⟨hbk.set 1 _, ⟨es, hes.tch t3 (by simpa using Ne.symm h.ne), (hps.tch t3 hnF).mono fun _ hh => hh.1⟩, h.ne, h.nF, h.k, by simp only; omega, by have := h.top; simp only; omega, fun p hp => h.good p (delS_mem hp)⟩
      · rw [hos]
        refine ⟨x, q, xc, rfl, ⟨vs, ?_, (hsl.tch t3 hnF).mono fun _ hh => hh.1⟩, fun y hy => (own_ge hown y hy).1⟩
        refine own_rsl (own_up hown t3 (fun k hk hm => ?_)) hsl.ones
        simp at hm
        rw [hm] at hk
        have := (own_lt hown hk).1
        omega
end Go.Proofs.YtjchneebdlncfaaDoor.Lib
set_option maxRecDepth 100000
namespace Go.Proofs.YtjchneebdlncfaaDoor.Fn
open Go Den
/-- prelude/preludelaw25.awake -/
def s24 : S := (.seq (.ops [⟨(some 0), (.mv (.const (.bool false))), .bool, none⟩] [])
 (.seq (.ops [⟨(some 12), (.call 54 [(.const (.int .i64 2)), (.const (.int .i64 1))] [.ptr, (.int .i64)]), .any, none⟩,
  ⟨(some 11), (.mv (.tmp 12)), .any, none⟩,
  ⟨(some 13), (.ext 0 (.tmp 11)), .ptr, none⟩,
  ⟨(some 14), (.ext 1 (.tmp 11)), (.int .i64), none⟩,
  ⟨(some 1), (.mv (.tmp 13)), .ptr, none⟩,
  ⟨(some 2), (.mv (.tmp 14)), (.int .i64), none⟩] [2, 1])
 (.join [] [1]
 (.seq (.ops [⟨(some 15), (.mv (.tmp 2)), (.int .i64), none⟩,
  ⟨(some 16), (.bin .neq (.tmp 15) (.const (.int .i64 0))), .bool, none⟩,
  ⟨(some 17), (.mv (.tmp 16)), .bool, none⟩,
  ⟨(some 18), (.mv (.tmp 1)), .ptr, (some (17, false))⟩,
  ⟨(some 19), (.nilEq false 1 (.tmp 18)), .bool, (some (17, false))⟩,
  ⟨(some 20), (.pick (.tmp 17) (.const (.bool true)) (.tmp 19)), .bool, none⟩] [20, 1])
 (.cond (.tmp 20)
 (.seq (.ops [⟨(some 0), (.mv (.const (.bool false))), .bool, none⟩] [0])
 .ret)
 .skip))
 (.seq (.ops [⟨(some 21), (.bld 37 (.fields [(0, 1), (1, 1), (2, 1)]) [(0, (.const (.int .i64 1))), (1, (.const (.int .i64 2)))]), .agg, none⟩,
  ⟨(some 22), (.call 55 [(.const (.int .i64 3))] [.agg]), .agg, none⟩,
  ⟨(some 23), (.bldS 76 1 4 [(0, (.tmp 22))]), .sl, none⟩,
  ⟨(some 24), (.bld 37 (.fields [(0, 1), (1, 1), (2, 1)]) [(0, (.const (.int .i64 0))), (1, (.const (.int .i64 2))), (2, (.tmp 23))]), .agg, none⟩,
  ⟨(some 25), (.call 55 [(.const (.int .i64 2))] [.agg]), .agg, none⟩,
  ⟨(some 26), (.bldS 76 1 4 [(0, (.tmp 25))]), .sl, none⟩,
  ⟨(some 27), (.bld 37 (.fields [(0, 1), (1, 1), (2, 1)]) [(0, (.const (.int .i64 1))), (1, (.const (.int .i64 1))), (2, (.tmp 26))]), .agg, none⟩,
  ⟨(some 28), (.call 55 [(.const (.int .i64 1))] [.agg]), .agg, none⟩,
  ⟨(some 29), (.bldS 76 1 4 [(0, (.tmp 28))]), .sl, none⟩,
  ⟨(some 30), (.bld 37 (.fields [(0, 1), (1, 1), (2, 1)]) [(0, (.const (.int .i64 0))), (1, (.const (.int .i64 1))), (2, (.tmp 29))]), .agg, none⟩,
  ⟨(some 31), (.bldS 37 4 3 [(0, (.tmp 21)), (1, (.tmp 24)), (2, (.tmp 27)), (3, (.tmp 30))]), .sl, none⟩,
  ⟨(some 3), (.mv (.tmp 31)), .sl, none⟩] [3, 1])
 (.seq (.seq (.ops [⟨(some 4), (.mv (.const (.int .i64 0))), (.int .i64), none⟩] [4, 3, 1])
 (.block 0
 (.loop [(4, (.int .i64))] [1, 3]
 (.seq (.seq (.ops [⟨(some 32), (.mv (.tmp 4)), (.int .i64), none⟩,
  ⟨(some 33), (.mv (.tmp 3)), .sl, none⟩,
  ⟨(some 34), (.len (.tmp 33)), (.int .i64), none⟩,
  ⟨(some 35), (.bin .lss (.tmp 32) (.tmp 34)), .bool, none⟩] [35, 1, 3, 4])
 (.cond (.tmp 35)
 .skip
 (.exit 0)))
 (.seq (.block 1
 (.seq (.ops [⟨(some 38), (.mv (.tmp 1)), .ptr, none⟩,
  ⟨(some 39), (.mv (.tmp 3)), .sl, none⟩,
  ⟨(some 40), (.mv (.tmp 4)), (.int .i64), none⟩,
  ⟨(some 41), (.ia 3 (.tmp 39) (.tmp 40)), .ptr, none⟩,
  ⟨(some 42), (.ldN 3 (.tmp 41)), .agg, none⟩,
  ⟨(some 43), (.call 56 [(.tmp 38), (.tmp 42)] [(.int .i64)]), (.int .i64), none⟩,
  ⟨(some 44), (.bin .neq (.tmp 43) (.const (.int .i64 0))), .bool, none⟩] [44, 4, 3, 1])
 (.cond (.tmp 44)
 (.seq (.ops [⟨(some 0), (.mv (.const (.bool false))), .bool, none⟩] [0])
 .ret)
 .skip)))
 (.ops [⟨(some 36), (.mv (.tmp 4)), (.int .i64), none⟩,
  ⟨(some 37), (.bin .add (.tmp 36) (.const (.int .i64 1))), (.int .i64), none⟩,
  ⟨(some 4), (.mv (.tmp 37)), (.int .i64), none⟩] [4, 3, 1]))))))
 (.seq (.ops [⟨(some 46), (.mv (.tmp 1)), .ptr, none⟩,
  ⟨(some 47), (.call 57 [(.tmp 46)] [.sl, .bool]), .any, none⟩,
  ⟨(some 45), (.mv (.tmp 47)), .any, none⟩,
  ⟨(some 48), (.ext 0 (.tmp 45)), .sl, none⟩,
  ⟨(some 49), (.ext 1 (.tmp 45)), .bool, none⟩,
  ⟨(some 5), (.mv (.tmp 48)), .sl, none⟩,
  ⟨(some 6), (.mv (.tmp 49)), .bool, none⟩] [1, 6, 5])
 (.seq (.ops [⟨(some 51), (.mv (.tmp 1)), .ptr, none⟩,
  ⟨(some 52), (.call 57 [(.tmp 51)] [.sl, .bool]), .any, none⟩,
  ⟨(some 50), (.mv (.tmp 52)), .any, none⟩,
  ⟨(some 53), (.ext 0 (.tmp 50)), .sl, none⟩,
  ⟨(some 54), (.ext 1 (.tmp 50)), .bool, none⟩,
  ⟨(some 7), (.mv (.tmp 53)), .sl, none⟩,
  ⟨(some 8), (.mv (.tmp 54)), .bool, none⟩] [1, 6, 8, 5, 7])
 (.seq (.ops [⟨(some 56), (.mv (.tmp 1)), .ptr, none⟩,
  ⟨(some 57), (.call 57 [(.tmp 56)] [.sl, .bool]), .any, none⟩,
  ⟨(some 55), (.mv (.tmp 57)), .any, none⟩,
  ⟨(some 58), (.ext 0 (.tmp 55)), .sl, none⟩,
  ⟨(some 59), (.ext 1 (.tmp 55)), .bool, none⟩,
  ⟨(some 9), (.mv (.tmp 58)), .sl, none⟩,
  ⟨(some 10), (.mv (.tmp 59)), .bool, none⟩] [6, 8, 10, 1, 5, 7])
 (.join [] [5, 7]
 (.seq (.ops [⟨(some 60), (.mv (.tmp 6)), .bool, none⟩,
  ⟨(some 61), (.un .not (.tmp 60)), .bool, none⟩,
  ⟨(some 62), (.mv (.tmp 61)), .bool, none⟩,
  ⟨(some 63), (.mv (.tmp 8)), .bool, (some (62, false))⟩,
  ⟨(some 64), (.un .not (.tmp 63)), .bool, (some (62, false))⟩,
  ⟨(some 65), (.pick (.tmp 62) (.const (.bool true)) (.tmp 64)), .bool, none⟩,
  ⟨(some 66), (.mv (.tmp 65)), .bool, none⟩,
  ⟨(some 67), (.mv (.tmp 10)), .bool, (some (66, false))⟩,
  ⟨(some 68), (.pick (.tmp 66) (.const (.bool true)) (.tmp 67)), .bool, none⟩,
  ⟨(some 69), (.mv (.tmp 68)), .bool, none⟩,
  ⟨(some 70), (.mv (.tmp 1)), .ptr, (some (69, false))⟩,
  ⟨(some 71), (.call 58 [(.tmp 70)] [(.int .i64)]), (.int .i64), (some (69, false))⟩,
  ⟨(some 72), (.bin .neq (.tmp 71) (.const (.int .i64 3))), .bool, (some (69, false))⟩,
  ⟨(some 73), (.pick (.tmp 69) (.const (.bool true)) (.tmp 72)), .bool, none⟩,
  ⟨(some 74), (.mv (.tmp 73)), .bool, none⟩,
  ⟨(some 75), (.mv (.tmp 5)), .sl, (some (74, false))⟩,
  ⟨(some 76), (.len (.tmp 75)), (.int .i64), (some (74, false))⟩,
  ⟨(some 77), (.bin .neq (.tmp 76) (.const (.int .i64 2))), .bool, (some (74, false))⟩,
  ⟨(some 78), (.pick (.tmp 74) (.const (.bool true)) (.tmp 77)), .bool, none⟩,
  ⟨(some 79), (.mv (.tmp 78)), .bool, none⟩,
  ⟨(some 80), (.mv (.tmp 7)), .sl, (some (79, false))⟩,
  ⟨(some 81), (.len (.tmp 80)), (.int .i64), (some (79, false))⟩,
  ⟨(some 82), (.bin .neq (.tmp 81) (.const (.int .i64 2))), .bool, (some (79, false))⟩,
  ⟨(some 83), (.pick (.tmp 79) (.const (.bool true)) (.tmp 82)), .bool, none⟩] [83, 5, 7])
 (.cond (.tmp 83)
 (.seq (.ops [⟨(some 0), (.mv (.const (.bool false))), .bool, none⟩] [0])
 .ret)
 .skip))
 (.seq (.draw (.take 0 ⟨(some 84), (.mv (.tmp 5)), .sl, none⟩
  (.take 1 ⟨(some 85), (.ia 1 (.tmp 84) (.const (.int .i64 0))), .ptr, none⟩
  (.take 2 ⟨(some 86), (.ld1 (.tmp 85)), .sl, none⟩
  (.go 3 ⟨(some 87), (.call 55 [(.const (.int .i64 1))] [.agg]), .agg, none⟩ [(2, ⟨(some 86), (.ld1 (.tmp 85)), .sl, none⟩)]
  (.go 4 ⟨(some 88), (.bldS 76 1 4 [(0, (.tmp 87))]), .sl, none⟩ [(2, ⟨(some 86), (.ld1 (.tmp 85)), .sl, none⟩)]
  (.go 5 ⟨(some 89), (.call 53 [(.tmp 86), (.tmp 88)] [.bool]), .bool, none⟩ []
  (.take 6 ⟨(some 90), (.mv (.tmp 89)), .bool, none⟩
  (.take 7 ⟨(some 91), (.mv (.tmp 5)), .sl, (some (90, true))⟩
  (.take 8 ⟨(some 92), (.ia 1 (.tmp 91) (.const (.int .i64 1))), .ptr, (some (90, true))⟩
  (.take 9 ⟨(some 93), (.ld1 (.tmp 92)), .sl, (some (90, true))⟩
  (.go 10 ⟨(some 94), (.call 55 [(.const (.int .i64 2))] [.agg]), .agg, (some (90, true))⟩ [(9, ⟨(some 93), (.ld1 (.tmp 92)), .sl, (some (90, true))⟩)]
  (.go 11 ⟨(some 95), (.bldS 76 1 4 [(0, (.tmp 94))]), .sl, (some (90, true))⟩ [(9, ⟨(some 93), (.ld1 (.tmp 92)), .sl, (some (90, true))⟩)]
  (.go 12 ⟨(some 96), (.call 53 [(.tmp 93), (.tmp 95)] [.bool]), .bool, (some (90, true))⟩ []
  (.take 13 ⟨(some 97), (.pick (.tmp 90) (.tmp 96) (.const (.bool false))), .bool, none⟩
  (.take 14 ⟨(some 98), (.mv (.tmp 97)), .bool, none⟩
  (.take 15 ⟨(some 99), (.mv (.tmp 7)), .sl, (some (98, true))⟩
  (.take 16 ⟨(some 100), (.ia 1 (.tmp 99) (.const (.int .i64 0))), .ptr, (some (98, true))⟩
  (.take 17 ⟨(some 101), (.ld1 (.tmp 100)), .sl, (some (98, true))⟩
  (.take 18 ⟨(some 102), (.len (.tmp 101)), (.int .i64), (some (98, true))⟩
  (.take 19 ⟨(some 103), (.bin .eql (.tmp 102) (.const (.int .i64 0))), .bool, (some (98, true))⟩
  (.take 20 ⟨(some 104), (.pick (.tmp 98) (.tmp 103) (.const (.bool false))), .bool, none⟩
  (.take 21 ⟨(some 105), (.mv (.tmp 104)), .bool, none⟩
  (.take 22 ⟨(some 106), (.mv (.tmp 7)), .sl, (some (105, true))⟩
  (.take 23 ⟨(some 107), (.ia 1 (.tmp 106) (.const (.int .i64 1))), .ptr, (some (105, true))⟩
  (.take 24 ⟨(some 108), (.ld1 (.tmp 107)), .sl, (some (105, true))⟩
  (.go 25 ⟨(some 109), (.call 55 [(.const (.int .i64 3))] [.agg]), .agg, (some (105, true))⟩ [(24, ⟨(some 108), (.ld1 (.tmp 107)), .sl, (some (105, true))⟩)]
  (.go 26 ⟨(some 110), (.bldS 76 1 4 [(0, (.tmp 109))]), .sl, (some (105, true))⟩ [(24, ⟨(some 108), (.ld1 (.tmp 107)), .sl, (some (105, true))⟩)]
  (.go 27 ⟨(some 111), (.call 53 [(.tmp 108), (.tmp 110)] [.bool]), .bool, (some (105, true))⟩ []
  (.take 28 ⟨(some 112), (.pick (.tmp 105) (.tmp 111) (.const (.bool false))), .bool, none⟩
  (.take 29 ⟨(some 0), (.mv (.tmp 112)), .bool, none⟩
  .done)))))))))))))))))))))))))))))) [0])
 .ret))))))))))
def r24 : List Res := [.t 0]
theorem tr24 : trS Tryd.prog [] 113 (Tryd.f24.body.getD .skip) s24 = some s24 := by kernel_rfl
theorem den24 (args : List Value) (w : World) (R : Ending → World → Prop) (hn : args.length ≤ 113) (h : denS Tryd.prog s24 (argsEnv 0 args) w (endK r24 R)) : Calls Tryd.prog 24 args.toArray w R :=
  calls_of_den (pn := []) (fn := Tryd.f24) (c := Tryd.f24.body.getD .skip) Tryd.func24 (by kernel_rfl) (by rw [Tryd.ntmps24]; exact hn) (by rw [Tryd.ntmps24]; exact tr24) (by kernel_rfl) h
def d24 (w : World) (R : Ending → World → Prop) : Prop :=
 Calls Tryd.prog 54 #[(.int .i64 2), (.int .i64 1)] w fun e0 w1 => ∃ x2 : Option Addr, ∃ x3 : Int, e0 = .returned (.tuple #[(.pointer x2), (.int .i64 x3)]) ∧
 ∃ x4 : Option Addr, (#[(.pointer x2), (.int .i64 x3)] : Array Value)[0]? = some (.pointer x4) ∧
 ∃ x5 : Int, (#[(.pointer x2), (.int .i64 x3)] : Array Value)[1]? = some (.int .i64 x5) ∧
 ∃ J6 : World → Prop,
 ((bif (!decide (x5 = 0)) then
 (R (.returned (.bool false)) w1)
 else
 ((bif (Option.isNone x4) then
 (R (.returned (.bool false)) w1)
 else
 (J6  w1))))) ∧
 (∀ (w7 : World), J6  w7 →
 ∃ cs8, fillL (.fields [(0, 1), (1, 1), (2, 1)]) (zc Tryd.prog 37) [(0, (.int .i64 1)), (1, (.int .i64 2))] = some cs8 ∧
 Calls Tryd.prog 55 #[(.int .i64 3)] w7 fun e9 w10 => ∃ x11 : Array Value, e9 = .returned (.agg x11) ∧
 ∃ cs12, fillL (.elems 4) (zrep (zc Tryd.prog 76) (1 * 4)) [(0, (.agg x11))] = some cs12 ∧
 ∀ w13 : World, w13 = World.alloc w10 (.cells (List.toArray cs12) 76) →
 ∃ cs14, fillL (.fields [(0, 1), (1, 1), (2, 1)]) (zc Tryd.prog 37) [(0, (.int .i64 0)), (1, (.int .i64 2)), (2, (.slice (some ⟨World.heap w10 |>.size, 0, none⟩) 1 1))] = some cs14 ∧
 Calls Tryd.prog 55 #[(.int .i64 2)] w13 fun e15 w16 => ∃ x17 : Array Value, e15 = .returned (.agg x17) ∧
 ∃ cs18, fillL (.elems 4) (zrep (zc Tryd.prog 76) (1 * 4)) [(0, (.agg x17))] = some cs18 ∧
 ∀ w19 : World, w19 = World.alloc w16 (.cells (List.toArray cs18) 76) →
 ∃ cs20, fillL (.fields [(0, 1), (1, 1), (2, 1)]) (zc Tryd.prog 37) [(0, (.int .i64 1)), (1, (.int .i64 1)), (2, (.slice (some ⟨World.heap w16 |>.size, 0, none⟩) 1 1))] = some cs20 ∧
 Calls Tryd.prog 55 #[(.int .i64 1)] w19 fun e21 w22 => ∃ x23 : Array Value, e21 = .returned (.agg x23) ∧
 ∃ cs24, fillL (.elems 4) (zrep (zc Tryd.prog 76) (1 * 4)) [(0, (.agg x23))] = some cs24 ∧
 ∀ w25 : World, w25 = World.alloc w22 (.cells (List.toArray cs24) 76) →
 ∃ cs26, fillL (.fields [(0, 1), (1, 1), (2, 1)]) (zc Tryd.prog 37) [(0, (.int .i64 0)), (1, (.int .i64 1)), (2, (.slice (some ⟨World.heap w22 |>.size, 0, none⟩) 1 1))] = some cs26 ∧
 ∃ cs27, fillL (.elems 3) (zrep (zc Tryd.prog 37) (4 * 3)) [(0, (.agg (List.toArray cs8))), (1, (.agg (List.toArray cs14))), (2, (.agg (List.toArray cs20))), (3, (.agg (List.toArray cs26)))] = some cs27 ∧
 ∀ w28 : World, w28 = World.alloc w25 (.cells (List.toArray cs27) 37) →
 ∃ I29 : Nat → Int → World → Prop,
 (∃ m, I29 m 0 w28) ∧
 (∀ (m30 : Nat) (w31 : World) (i32 : Int), I29 m30 i32 w31 →
 (bif (decide (i32 < ((4 : Nat) : Int))) then
 (0 ≤ i32 ∧ i32 < ((4 : Nat) : Int) ∧
 ∃ cs33 : List Value, List.length cs33 = 3 ∧ Cells w31 (Addr.add ⟨World.heap w25 |>.size, 0, none⟩ (Int.toNat i32 * 3)) cs33 ∧
 Calls Tryd.prog 56 #[(.pointer x4), (.agg (List.toArray cs33))] w31 fun e34 w35 => ∃ x36 : Int, e34 = .returned (.int .i64 x36) ∧
 (bif (!decide (x36 = 0)) then
 (R (.returned (.bool false)) w35)
 else
 (∃ m37, m37 < m30 ∧ I29 m37 (IntKind.wrap .i64 (i32 + 1)) w35)))
 else
 (Calls Tryd.prog 57 #[(.pointer x4)] w31 fun e38 w39 => ∃ (x40 : Option Addr) (x40n : Nat) (x40c : Nat), ∃ x41 : Bool, e38 = .returned (.tuple #[(.slice x40 x40n x40c), (.bool x41)]) ∧
 ∃ (x42 : Option Addr) (x42n : Nat) (x42c : Nat), (#[(.slice x40 x40n x40c), (.bool x41)] : Array Value)[0]? = some (.slice x42 x42n x42c) ∧
 ∃ x43 : Bool, (#[(.slice x40 x40n x40c), (.bool x41)] : Array Value)[1]? = some (.bool x43) ∧
 Calls Tryd.prog 57 #[(.pointer x4)] w39 fun e44 w45 => ∃ (x46 : Option Addr) (x46n : Nat) (x46c : Nat), ∃ x47 : Bool, e44 = .returned (.tuple #[(.slice x46 x46n x46c), (.bool x47)]) ∧
 ∃ (x48 : Option Addr) (x48n : Nat) (x48c : Nat), (#[(.slice x46 x46n x46c), (.bool x47)] : Array Value)[0]? = some (.slice x48 x48n x48c) ∧
 ∃ x49 : Bool, (#[(.slice x46 x46n x46c), (.bool x47)] : Array Value)[1]? = some (.bool x49) ∧
 Calls Tryd.prog 57 #[(.pointer x4)] w45 fun e50 w51 => ∃ (x52 : Option Addr) (x52n : Nat) (x52c : Nat), ∃ x53 : Bool, e50 = .returned (.tuple #[(.slice x52 x52n x52c), (.bool x53)]) ∧
 ∃ (x54 : Option Addr) (x54n : Nat) (x54c : Nat), (#[(.slice x52 x52n x52c), (.bool x53)] : Array Value)[0]? = some (.slice x54 x54n x54c) ∧
 ∃ x55 : Bool, (#[(.slice x52 x52n x52c), (.bool x53)] : Array Value)[1]? = some (.bool x55) ∧
 ∃ J56 : World → Prop,
 ((bif (!x43) then
 (R (.returned (.bool false)) w51)
 else
 ((bif (!x49) then
 (R (.returned (.bool false)) w51)
 else
 ((bif x55 then
 (R (.returned (.bool false)) w51)
 else
 (Calls Tryd.prog 58 #[(.pointer x4)] w51 fun e57 w58 => ∃ x59 : Int, e57 = .returned (.int .i64 x59) ∧
 (bif (!decide (x59 = 3)) then
 (R (.returned (.bool false)) w58)
 else
 ((bif (!decide (((x42n : Nat) : Int) = 2)) then
 (R (.returned (.bool false)) w58)
 else
 ((bif (!decide (((x48n : Nat) : Int) = 2)) then
 (R (.returned (.bool false)) w58)
 else
 (J56  w58))))))))))))) ∧
 (∀ (w60 : World), J56  w60 →
 ∀ w61 : World, w61 = World.drew w60 →
 0 ≤ (0 : Int) ∧ (0 : Int) < ((x42n : Nat) : Int) ∧ optK x42 fun a62 =>
 ∃ (x63 : Option Addr) (x63n : Nat) (x63c : Nat), World.cell? w61 (Addr.add a62 (Int.toNat 0 * 1)) = some (.slice x63 x63n x63c) ∧
 Calls Tryd.prog 55 #[(.int .i64 1)] w61 fun e64 w65 => ∃ x66 : Array Value, e64 = .returned (.agg x66) ∧
 (∃ (z67 : Option Addr) (z67n : Nat) (z67c : Nat), World.cell? w65 (Addr.add a62 (Int.toNat 0 * 1)) = some (.slice z67 z67n z67c) ∧
 (((.slice z67 z67n z67c) : Value) = (.slice x63 x63n x63c) ∧ w65 = w65)) ∧
 ∃ cs68, fillL (.elems 4) (zrep (zc Tryd.prog 76) (1 * 4)) [(0, (.agg x66))] = some cs68 ∧
 ∀ w69 : World, w69 = World.alloc w65 (.cells (List.toArray cs68) 76) →
 (∃ (z70 : Option Addr) (z70n : Nat) (z70c : Nat), World.cell? w69 (Addr.add a62 (Int.toNat 0 * 1)) = some (.slice z70 z70n z70c) ∧
 (((.slice z70 z70n z70c) : Value) = (.slice x63 x63n x63c) ∧ w69 = w69)) ∧
 Calls Tryd.prog 53 #[(.slice x63 x63n x63c), (.slice (some ⟨World.heap w65 |>.size, 0, none⟩) 1 1)] w69 fun e71 w72 => ∃ x73 : Bool, e71 = .returned (.bool x73) ∧
 (bif x73 then
 (0 ≤ (1 : Int) ∧ (1 : Int) < ((x42n : Nat) : Int) ∧ optK x42 fun a74 =>
 ∃ (x75 : Option Addr) (x75n : Nat) (x75c : Nat), World.cell? w72 (Addr.add a74 (Int.toNat 1 * 1)) = some (.slice x75 x75n x75c) ∧
 Calls Tryd.prog 55 #[(.int .i64 2)] w72 fun e76 w77 => ∃ x78 : Array Value, e76 = .returned (.agg x78) ∧
 (∃ (z79 : Option Addr) (z79n : Nat) (z79c : Nat), World.cell? w77 (Addr.add a74 (Int.toNat 1 * 1)) = some (.slice z79 z79n z79c) ∧
 (((.slice z79 z79n z79c) : Value) = (.slice x75 x75n x75c) ∧ w77 = w77)) ∧
 ∃ cs80, fillL (.elems 4) (zrep (zc Tryd.prog 76) (1 * 4)) [(0, (.agg x78))] = some cs80 ∧
 ∀ w81 : World, w81 = World.alloc w77 (.cells (List.toArray cs80) 76) →
 (∃ (z82 : Option Addr) (z82n : Nat) (z82c : Nat), World.cell? w81 (Addr.add a74 (Int.toNat 1 * 1)) = some (.slice z82 z82n z82c) ∧
 (((.slice z82 z82n z82c) : Value) = (.slice x75 x75n x75c) ∧ w81 = w81)) ∧
 Calls Tryd.prog 53 #[(.slice x75 x75n x75c), (.slice (some ⟨World.heap w77 |>.size, 0, none⟩) 1 1)] w81 fun e83 w84 => ∃ x85 : Bool, e83 = .returned (.bool x85) ∧
 (bif x85 then
 (0 ≤ (0 : Int) ∧ (0 : Int) < ((x48n : Nat) : Int) ∧ optK x48 fun a86 =>
 ∃ (x87 : Option Addr) (x87n : Nat) (x87c : Nat), World.cell? w84 (Addr.add a86 (Int.toNat 0 * 1)) = some (.slice x87 x87n x87c) ∧
 (bif (decide (((x87n : Nat) : Int) = 0)) then
 (0 ≤ (1 : Int) ∧ (1 : Int) < ((x48n : Nat) : Int) ∧ optK x48 fun a88 =>
 ∃ (x89 : Option Addr) (x89n : Nat) (x89c : Nat), World.cell? w84 (Addr.add a88 (Int.toNat 1 * 1)) = some (.slice x89 x89n x89c) ∧
 Calls Tryd.prog 55 #[(.int .i64 3)] w84 fun e90 w91 => ∃ x92 : Array Value, e90 = .returned (.agg x92) ∧
 (∃ (z93 : Option Addr) (z93n : Nat) (z93c : Nat), World.cell? w91 (Addr.add a88 (Int.toNat 1 * 1)) = some (.slice z93 z93n z93c) ∧
 (((.slice z93 z93n z93c) : Value) = (.slice x89 x89n x89c) ∧ w91 = w91)) ∧
 ∃ cs94, fillL (.elems 4) (zrep (zc Tryd.prog 76) (1 * 4)) [(0, (.agg x92))] = some cs94 ∧
 ∀ w95 : World, w95 = World.alloc w91 (.cells (List.toArray cs94) 76) →
 (∃ (z96 : Option Addr) (z96n : Nat) (z96c : Nat), World.cell? w95 (Addr.add a88 (Int.toNat 1 * 1)) = some (.slice z96 z96n z96c) ∧
 (((.slice z96 z96n z96c) : Value) = (.slice x89 x89n x89c) ∧ w95 = w95)) ∧
 Calls Tryd.prog 53 #[(.slice x89 x89n x89c), (.slice (some ⟨World.heap w91 |>.size, 0, none⟩) 1 1)] w95 fun e97 w98 => ∃ x99 : Bool, e97 = .returned (.bool x99) ∧
 R (.returned (.bool x99)) w98)
 else
 ((True) ∧
 (True) ∧
 R (.returned (.bool false)) w84)))
 else
 ((True) ∧
 (True) ∧
 R (.returned (.bool false)) w84)))
 else
 ((True) ∧
 (True) ∧
 (True) ∧
 (True) ∧
 R (.returned (.bool false)) w72)))))))
theorem e24 (w : World) (R : Ending → World → Prop) : denS Tryd.prog s24 (argsEnv 0 []) w (endK r24 R) = d24  w R := by kernel_rfl
theorem c24 {w : World} {R : Ending → World → Prop} (h : d24  w R) : Calls Tryd.prog 24 #[] w R :=
  den24 [] w R (by simp) ((e24  w R).symm ▸ h)

/-- prelude/preludelaw25.put -/
def s55 : S := (.seq (.ops [⟨(some 2), (.alloc 76), .ptr, none⟩] [0, 2])
 (.seq (.ops [⟨(some 3), (.mv (.tmp 0)), (.int .i64), none⟩,
  ⟨(some 4), (.bldS 2 1 1 [(0, (.tmp 3))]), .sl, none⟩,
  ⟨(some 5), (.mv (.tmp 0)), (.int .i64), none⟩,
  ⟨(some 6), (.bld 129 (.fields [(0, 1), (1, 1)]) [(1, (.tmp 5))]), .agg, none⟩,
  ⟨(some 7), (.bldS 129 1 2 [(0, (.tmp 6))]), .sl, none⟩,
  ⟨(some 8), (.bld 76 (.fields [(0, 1), (1, 1), (2, 1), (3, 1)]) [(0, (.const (.int .i64 1))), (1, (.tmp 4)), (3, (.tmp 7))]), .agg, none⟩,
  ⟨none, (.stN 4 (.tmp 2) (.tmp 8)), .any, none⟩] [2])
 .ret))
def r55 : List Res := [.cN 2 4]
theorem tr55 : trS Tryd.prog [] 9 (Tryd.f55.body.getD .skip) s55 = some s55 := by kernel_rfl
theorem den55 (args : List Value) (w : World) (R : Ending → World → Prop) (hn : args.length ≤ 9) (h : denS Tryd.prog s55 (argsEnv 0 args) w (endK r55 R)) : Calls Tryd.prog 55 args.toArray w R :=
  calls_of_den (pn := []) (fn := Tryd.f55) (c := Tryd.f55.body.getD .skip) Tryd.func55 (by kernel_rfl) (by rw [Tryd.ntmps55]; exact hn) (by rw [Tryd.ntmps55]; exact tr55) (by kernel_rfl) h
def d55 (v0 : Int) (w : World) (R : Ending → World → Prop) : Prop :=
 ∀ w1 : World, w1 = World.alloc w (.cells (zc Tryd.prog 76).toArray 76) →
 ∃ cs2, fillL (.elems 1) (zrep (zc Tryd.prog 2) (1 * 1)) [(0, (.int .i64 v0))] = some cs2 ∧
 ∀ w3 : World, w3 = World.alloc w1 (.cells (List.toArray cs2) 2) →
 ∃ cs4, fillL (.fields [(0, 1), (1, 1)]) (zc Tryd.prog 129) [(1, (.int .i64 v0))] = some cs4 ∧
 ∃ cs5, fillL (.elems 2) (zrep (zc Tryd.prog 129) (1 * 2)) [(0, (.agg (List.toArray cs4)))] = some cs5 ∧
 ∀ w6 : World, w6 = World.alloc w3 (.cells (List.toArray cs5) 129) →
 ∃ cs7, fillL (.fields [(0, 1), (1, 1), (2, 1), (3, 1)]) (zc Tryd.prog 76) [(0, (.int .i64 1)), (1, (.slice (some ⟨World.heap w1 |>.size, 0, none⟩) 1 1)), (3, (.slice (some ⟨World.heap w3 |>.size, 0, none⟩) 1 1))] = some cs7 ∧
 Array.size (List.toArray cs7) = 4 ∧ (∀ u ∈ Array.toList (List.toArray cs7), one u = true) ∧ Room w6 ⟨World.heap w |>.size, 0, none⟩ 4 ∧
 ∀ w8 : World, w8 = setCells w6 ⟨World.heap w |>.size, 0, none⟩ (Array.toList (List.toArray cs7)) 0 →
 ∃ cs9 : List Value, List.length cs9 = 4 ∧ Cells w8 ⟨World.heap w |>.size, 0, none⟩ cs9 ∧
 R (.returned (.agg (List.toArray cs9))) w8
theorem e55 (v0 : Int) (w : World) (R : Ending → World → Prop) : denS Tryd.prog s55 (argsEnv 0 [(.int .i64 v0)]) w (endK r55 R) = d55 v0 w R := by kernel_rfl
theorem c55 (v0 : Int) {w : World} {R : Ending → World → Prop} (h : d55 v0 w R) : Calls Tryd.prog 55 #[(.int .i64 v0)] w R :=
  den55 [(.int .i64 v0)] w R (by simp) ((e55 v0 w R).symm ▸ h)

/-- prelude/preludelaw25.MergeForms -/
def s5 : S := (.seq (.ops [⟨(some 3), (.box 37 (.tmp 0)), .ptr, none⟩,
  ⟨(some 6), (.mv (.const (.bool false))), .bool, none⟩] [3, 1, 2])
 (.seq (.seq (.ops [⟨(some 24), (.call 24 [] [.bool]), .bool, none⟩,
  ⟨(some 25), (.un .not (.tmp 24)), .bool, none⟩] [25, 3, 1, 2])
 (.cond (.tmp 25)
 (.seq (.ops [⟨(some 6), (.mv (.const (.bool false))), .bool, none⟩] [6])
 .ret)
 .skip))
 (.seq (.ops [⟨(some 27), (.ldN 3 (.tmp 3)), .agg, none⟩,
  ⟨(some 28), (.call 12 [(.tmp 27)] [.sl, (.int .i64)]), .any, none⟩,
  ⟨(some 26), (.mv (.tmp 28)), .any, none⟩,
  ⟨(some 29), (.ext 0 (.tmp 26)), .sl, none⟩,
  ⟨(some 30), (.ext 1 (.tmp 26)), (.int .i64), none⟩,
  ⟨(some 7), (.mv (.tmp 29)), .sl, none⟩,
  ⟨(some 8), (.mv (.tmp 30)), (.int .i64), none⟩] [8, 7, 3, 1, 2])
 (.join [] [1, 2]
 (.seq (.ops [⟨(some 31), (.mv (.tmp 8)), (.int .i64), none⟩,
  ⟨(some 32), (.bin .eql (.tmp 31) (.const (.int .i64 0))), .bool, none⟩] [32, 7, 3, 1, 2])
 (.cond (.tmp 32)
 (.seq (.ops [⟨(some 34), (.mv (.tmp 7)), .sl, none⟩,
  ⟨(some 35), (.call 18 [(.tmp 34)] [.agg, (.int .i64)]), .any, none⟩,
  ⟨(some 33), (.mv (.tmp 35)), .any, none⟩,
  ⟨(some 36), (.ext 0 (.tmp 33)), .agg, none⟩,
  ⟨(some 37), (.ext 1 (.tmp 33)), (.int .i64), none⟩,
  ⟨(some 9), (.alloc 37), .ptr, none⟩,
  ⟨none, (.stN 3 (.tmp 9) (.tmp 36)), .any, none⟩,
  ⟨(some 10), (.mv (.tmp 37)), (.int .i64), none⟩] [7, 10, 3, 9, 1, 2])
 (.seq (.ops [⟨(some 39), (.mv (.tmp 7)), .sl, none⟩,
  ⟨(some 40), (.call 20 [(.tmp 39)] [.sl, (.int .i64)]), .any, none⟩,
  ⟨(some 38), (.mv (.tmp 40)), .any, none⟩,
  ⟨(some 41), (.ext 0 (.tmp 38)), .sl, none⟩,
  ⟨(some 42), (.ext 1 (.tmp 38)), (.int .i64), none⟩,
  ⟨(some 11), (.mv (.tmp 41)), .sl, none⟩,
  ⟨(some 12), (.mv (.tmp 42)), (.int .i64), none⟩] [10, 12, 3, 9, 7, 1, 2])
 (.join [] [1, 2, 7]
 (.seq (.ops [⟨(some 43), (.mv (.tmp 10)), (.int .i64), none⟩,
  ⟨(some 44), (.bin .neq (.tmp 43) (.const (.int .i64 0))), .bool, none⟩,
  ⟨(some 45), (.mv (.tmp 44)), .bool, none⟩,
  ⟨(some 46), (.mv (.tmp 12)), (.int .i64), (some (45, false))⟩,
  ⟨(some 47), (.bin .neq (.tmp 46) (.const (.int .i64 264))), .bool, (some (45, false))⟩,
  ⟨(some 48), (.pick (.tmp 45) (.const (.bool true)) (.tmp 47)), .bool, none⟩,
  ⟨(some 49), (.mv (.tmp 48)), .bool, none⟩,
  ⟨(some 50), (.ldN 3 (.tmp 3)), .agg, (some (49, false))⟩,
  ⟨(some 51), (.ldN 3 (.tmp 9)), .agg, (some (49, false))⟩,
  ⟨(some 52), (.call 22 [(.tmp 50), (.tmp 51)] [.bool]), .bool, (some (49, false))⟩,
  ⟨(some 53), (.un .not (.tmp 52)), .bool, (some (49, false))⟩,
  ⟨(some 54), (.pick (.tmp 49) (.const (.bool true)) (.tmp 53)), .bool, none⟩,
  ⟨(some 55), (.mv (.tmp 54)), .bool, none⟩,
  ⟨(some 56), (.mv (.tmp 7)), .sl, (some (55, false))⟩,
  ⟨(some 57), (.len (.tmp 56)), (.int .i64), (some (55, false))⟩,
  ⟨(some 58), (.bin .lss (.tmp 57) (.const (.int .i64 14))), .bool, (some (55, false))⟩,
  ⟨(some 59), (.pick (.tmp 55) (.const (.bool true)) (.tmp 58)), .bool, none⟩] [59, 7, 1, 2])
 (.cond (.tmp 59)
 (.seq (.ops [⟨(some 6), (.mv (.const (.bool false))), .bool, none⟩] [6])
 .ret)
 .skip))
 (.seq (.ops [⟨(some 60), (.mv (.tmp 7)), .sl, none⟩,
  ⟨(some 61), (.mv (.tmp 7)), .sl, none⟩,
  ⟨(some 62), (.len (.tmp 61)), (.int .i64), none⟩,
  ⟨(some 63), (.bin .quo (.tmp 62) (.const (.int .i64 2))), (.int .i64), none⟩,
  ⟨(some 64), (.ia 1 (.tmp 60) (.tmp 63)), .ptr, none⟩,
  ⟨(some 65), (.ld1 (.tmp 64)), (.int .u8), none⟩,
  ⟨(some 66), (.bin .add (.tmp 65) (.const (.int .u8 1))), (.int .u8), none⟩,
  ⟨(some 67), (.ia 1 (.tmp 60) (.tmp 63)), .ptr, none⟩,
  ⟨none, (.st1 (.tmp 67) (.tmp 66)), .any, none⟩] [7, 1, 2])
 (.seq (.ops [⟨(some 69), (.mv (.tmp 7)), .sl, none⟩,
  ⟨(some 70), (.call 18 [(.tmp 69)] [.agg, (.int .i64)]), .any, none⟩,
  ⟨(some 68), (.mv (.tmp 70)), .any, none⟩,
  ⟨(some 71), (.ext 0 (.tmp 68)), .agg, none⟩,
  ⟨(some 72), (.ext 1 (.tmp 68)), (.int .i64), none⟩,
  ⟨(some 10), (.mv (.tmp 72)), (.int .i64), none⟩] [10, 1, 2])
 (.seq (.ops [⟨(some 73), (.mv (.tmp 10)), (.int .i64), none⟩,
  ⟨(some 74), (.bin .neq (.tmp 73) (.const (.int .i64 264))), .bool, none⟩] [74, 1, 2])
 (.cond (.tmp 74)
 (.seq (.ops [⟨(some 6), (.mv (.const (.bool false))), .bool, none⟩] [6])
 .ret)
 .skip)))))))
 .skip))
 (.seq (.ops [⟨(some 76), (.mv (.tmp 1)), .sl, none⟩,
  ⟨(some 77), (.call 15 [(.tmp 76)] [.sl, (.int .i64)]), .any, none⟩,
  ⟨(some 75), (.mv (.tmp 77)), .any, none⟩,
  ⟨(some 78), (.ext 0 (.tmp 75)), .sl, none⟩,
  ⟨(some 79), (.ext 1 (.tmp 75)), (.int .i64), none⟩,
  ⟨(some 13), (.mv (.tmp 78)), .sl, none⟩,
  ⟨(some 8), (.mv (.tmp 79)), (.int .i64), none⟩] [8, 13, 1, 2])
 (.join [] [2]
 (.seq (.ops [⟨(some 80), (.mv (.tmp 8)), (.int .i64), none⟩,
  ⟨(some 81), (.bin .eql (.tmp 80) (.const (.int .i64 0))), .bool, none⟩] [81, 13, 1, 2])
 (.cond (.tmp 81)
 (.seq (.ops [⟨(some 83), (.mv (.tmp 13)), .sl, none⟩,
  ⟨(some 84), (.call 20 [(.tmp 83)] [.sl, (.int .i64)]), .any, none⟩,
  ⟨(some 82), (.mv (.tmp 84)), .any, none⟩,
  ⟨(some 85), (.ext 0 (.tmp 82)), .sl, none⟩,
  ⟨(some 86), (.ext 1 (.tmp 82)), (.int .i64), none⟩,
  ⟨(some 14), (.mv (.tmp 85)), .sl, none⟩,
  ⟨(some 15), (.mv (.tmp 86)), (.int .i64), none⟩] [13, 15, 1, 14, 2])
 (.seq (.ops [⟨(some 88), (.mv (.tmp 13)), .sl, none⟩,
  ⟨(some 89), (.call 18 [(.tmp 88)] [.agg, (.int .i64)]), .any, none⟩,
  ⟨(some 87), (.mv (.tmp 89)), .any, none⟩,
  ⟨(some 90), (.ext 0 (.tmp 87)), .agg, none⟩,
  ⟨(some 91), (.ext 1 (.tmp 87)), (.int .i64), none⟩,
  ⟨(some 16), (.alloc 37), .ptr, none⟩,
  ⟨none, (.stN 3 (.tmp 16) (.tmp 90)), .any, none⟩,
  ⟨(some 17), (.mv (.tmp 91)), (.int .i64), none⟩] [15, 17, 1, 14, 2])
 (.seq (.ops [⟨(some 92), (.mv (.tmp 15)), (.int .i64), none⟩,
  ⟨(some 93), (.bin .neq (.tmp 92) (.const (.int .i64 0))), .bool, none⟩,
  ⟨(some 94), (.mv (.tmp 93)), .bool, none⟩,
  ⟨(some 95), (.mv (.tmp 17)), (.int .i64), (some (94, false))⟩,
  ⟨(some 96), (.bin .neq (.tmp 95) (.const (.int .i64 264))), .bool, (some (94, false))⟩,
  ⟨(some 97), (.pick (.tmp 94) (.const (.bool true)) (.tmp 96)), .bool, none⟩,
  ⟨(some 98), (.mv (.tmp 97)), .bool, none⟩,
  ⟨(some 99), (.mv (.tmp 1)), .sl, (some (98, false))⟩,
  ⟨(some 100), (.mv (.tmp 14)), .sl, (some (98, false))⟩,
  ⟨(some 101), (.call 23 [(.tmp 99), (.tmp 100)] [.bool]), .bool, (some (98, false))⟩,
  ⟨(some 102), (.un .not (.tmp 101)), .bool, (some (98, false))⟩,
  ⟨(some 103), (.pick (.tmp 98) (.const (.bool true)) (.tmp 102)), .bool, none⟩] [103, 2])
 (.cond (.tmp 103)
 (.seq (.ops [⟨(some 6), (.mv (.const (.bool false))), .bool, none⟩] [6])
 .ret)
 .skip))))
 .skip))
 (.seq (.ops [⟨(some 105), (.mv (.tmp 2)), .sl, none⟩,
  ⟨(some 106), (.call 18 [(.tmp 105)] [.agg, (.int .i64)]), .any, none⟩,
  ⟨(some 104), (.mv (.tmp 106)), .any, none⟩,
  ⟨(some 107), (.ext 0 (.tmp 104)), .agg, none⟩,
  ⟨(some 108), (.ext 1 (.tmp 104)), (.int .i64), none⟩,
  ⟨(some 18), (.alloc 37), .ptr, none⟩,
  ⟨none, (.stN 3 (.tmp 18) (.tmp 107)), .any, none⟩,
  ⟨(some 8), (.mv (.tmp 108)), (.int .i64), none⟩] [8, 18, 2])
 (.join [] [2]
 (.seq (.ops [⟨(some 109), (.mv (.tmp 8)), (.int .i64), none⟩,
  ⟨(some 110), (.bin .eql (.tmp 109) (.const (.int .i64 0))), .bool, none⟩] [110, 18, 2])
 (.cond (.tmp 110)
 (.seq (.ops [⟨(some 112), (.ldN 3 (.tmp 18)), .agg, none⟩,
  ⟨(some 113), (.call 12 [(.tmp 112)] [.sl, (.int .i64)]), .any, none⟩,
  ⟨(some 111), (.mv (.tmp 113)), .any, none⟩,
  ⟨(some 114), (.ext 0 (.tmp 111)), .sl, none⟩,
  ⟨(some 115), (.ext 1 (.tmp 111)), (.int .i64), none⟩,
  ⟨(some 19), (.mv (.tmp 114)), .sl, none⟩,
  ⟨(some 20), (.mv (.tmp 115)), (.int .i64), none⟩] [20, 19, 2])
 (.seq (.ops [⟨(some 116), (.mv (.tmp 20)), (.int .i64), none⟩,
  ⟨(some 117), (.bin .neq (.tmp 116) (.const (.int .i64 0))), .bool, none⟩,
  ⟨(some 118), (.mv (.tmp 117)), .bool, none⟩,
  ⟨(some 119), (.mv (.tmp 19)), .sl, (some (118, false))⟩,
  ⟨(some 120), (.mv (.tmp 2)), .sl, (some (118, false))⟩,
  ⟨(some 121), (.call 17 [(.tmp 119), (.tmp 120)] [.bool]), .bool, (some (118, false))⟩,
  ⟨(some 122), (.un .not (.tmp 121)), .bool, (some (118, false))⟩,
  ⟨(some 123), (.pick (.tmp 118) (.const (.bool true)) (.tmp 122)), .bool, none⟩] [123, 2])
 (.cond (.tmp 123)
 (.seq (.ops [⟨(some 6), (.mv (.const (.bool false))), .bool, none⟩] [6])
 .ret)
 .skip)))
 .skip))
 (.seq (.ops [⟨(some 125), (.mv (.tmp 2)), .sl, none⟩,
  ⟨(some 126), (.call 20 [(.tmp 125)] [.sl, (.int .i64)]), .any, none⟩,
  ⟨(some 124), (.mv (.tmp 126)), .any, none⟩,
  ⟨(some 127), (.ext 0 (.tmp 124)), .sl, none⟩,
  ⟨(some 128), (.ext 1 (.tmp 124)), (.int .i64), none⟩,
  ⟨(some 21), (.mv (.tmp 127)), .sl, none⟩,
  ⟨(some 8), (.mv (.tmp 128)), (.int .i64), none⟩] [8, 21, 2])
 (.seq (.seq (.ops [⟨(some 129), (.mv (.tmp 8)), (.int .i64), none⟩,
  ⟨(some 130), (.bin .eql (.tmp 129) (.const (.int .i64 0))), .bool, none⟩] [130, 21, 2])
 (.cond (.tmp 130)
 (.seq (.ops [⟨(some 132), (.mv (.tmp 21)), .sl, none⟩,
  ⟨(some 133), (.call 15 [(.tmp 132)] [.sl, (.int .i64)]), .any, none⟩,
  ⟨(some 131), (.mv (.tmp 133)), .any, none⟩,
  ⟨(some 134), (.ext 0 (.tmp 131)), .sl, none⟩,
  ⟨(some 135), (.ext 1 (.tmp 131)), (.int .i64), none⟩,
  ⟨(some 22), (.mv (.tmp 134)), .sl, none⟩,
  ⟨(some 23), (.mv (.tmp 135)), (.int .i64), none⟩] [23, 22, 2])
 (.seq (.ops [⟨(some 136), (.mv (.tmp 23)), (.int .i64), none⟩,
  ⟨(some 137), (.bin .eql (.tmp 136) (.const (.int .i64 0))), .bool, none⟩,
  ⟨(some 138), (.mv (.tmp 137)), .bool, none⟩,
  ⟨(some 139), (.mv (.tmp 22)), .sl, (some (138, true))⟩,
  ⟨(some 140), (.mv (.tmp 2)), .sl, (some (138, true))⟩,
  ⟨(some 141), (.call 17 [(.tmp 139), (.tmp 140)] [.bool]), .bool, (some (138, true))⟩,
  ⟨(some 142), (.pick (.tmp 138) (.tmp 141) (.const (.bool false))), .bool, none⟩,
  ⟨(some 6), (.mv (.tmp 142)), .bool, none⟩] [6])
 .ret))
 .skip))
 (.seq (.ops [⟨(some 6), (.mv (.const (.bool true))), .bool, none⟩] [6])
 .ret)))))))))))
def r5 : List Res := [.t 6]
theorem tr5 : trS Tryd.prog [] 143 (Tryd.f5.body.getD .skip) s5 = some s5 := by kernel_rfl
theorem den5 (args : List Value) (w : World) (R : Ending → World → Prop) (hn : args.length ≤ 143) (h : denS Tryd.prog s5 (argsEnv 0 args) w (endK r5 R)) : Calls Tryd.prog 5 args.toArray w R :=
  calls_of_den (pn := []) (fn := Tryd.f5) (c := Tryd.f5.body.getD .skip) Tryd.func5 (by kernel_rfl) (by rw [Tryd.ntmps5]; exact hn) (by rw [Tryd.ntmps5]; exact tr5) (by kernel_rfl) h
def d5 (p0 : Array Value) (l1 : Option Addr) (l1n : Nat) (l1c : Nat) (b2 : Option Addr) (b2n : Nat) (b2c : Nat) (w : World) (R : Ending → World → Prop) : Prop :=
 ∀ w3 : World, w3 = World.alloc w (.cells p0 37) →
 Calls Tryd.prog 24 #[] w3 fun e4 w5 => ∃ x6 : Bool, e4 = .returned (.bool x6) ∧
 (bif (!x6) then
 (R (.returned (.bool false)) w5)
 else
 (∃ cs7 : List Value, List.length cs7 = 3 ∧ Cells w5 ⟨World.heap w |>.size, 0, none⟩ cs7 ∧
 Calls Tryd.prog 12 #[(.agg (List.toArray cs7))] w5 fun e8 w9 => ∃ (x10 : Option Addr) (x10n : Nat) (x10c : Nat), ∃ x11 : Int, e8 = .returned (.tuple #[(.slice x10 x10n x10c), (.int .i64 x11)]) ∧
 ∃ (x12 : Option Addr) (x12n : Nat) (x12c : Nat), (#[(.slice x10 x10n x10c), (.int .i64 x11)] : Array Value)[0]? = some (.slice x12 x12n x12c) ∧
 ∃ x13 : Int, (#[(.slice x10 x10n x10c), (.int .i64 x11)] : Array Value)[1]? = some (.int .i64 x13) ∧
 ∃ J14 : World → Prop,
 ((bif (decide (x13 = 0)) then
 (Calls Tryd.prog 18 #[(.slice x12 x12n x12c)] w9 fun e15 w16 => ∃ x17 : Array Value, ∃ x18 : Int, e15 = .returned (.tuple #[(.agg x17), (.int .i64 x18)]) ∧
 ∃ x19 : Array Value, (#[(.agg x17), (.int .i64 x18)] : Array Value)[0]? = some (.agg x19) ∧
 ∃ x20 : Int, (#[(.agg x17), (.int .i64 x18)] : Array Value)[1]? = some (.int .i64 x20) ∧
 ∀ w21 : World, w21 = World.alloc w16 (.cells (zc Tryd.prog 37).toArray 37) →
 Array.size x19 = 3 ∧ (∀ u ∈ Array.toList x19, one u = true) ∧ Room w21 ⟨World.heap w16 |>.size, 0, none⟩ 3 ∧
 ∀ w22 : World, w22 = setCells w21 ⟨World.heap w16 |>.size, 0, none⟩ (Array.toList x19) 0 →
 Calls Tryd.prog 20 #[(.slice x12 x12n x12c)] w22 fun e23 w24 => ∃ (x25 : Option Addr) (x25n : Nat) (x25c : Nat), ∃ x26 : Int, e23 = .returned (.tuple #[(.slice x25 x25n x25c), (.int .i64 x26)]) ∧
 ∃ (x27 : Option Addr) (x27n : Nat) (x27c : Nat), (#[(.slice x25 x25n x25c), (.int .i64 x26)] : Array Value)[0]? = some (.slice x27 x27n x27c) ∧
 ∃ x28 : Int, (#[(.slice x25 x25n x25c), (.int .i64 x26)] : Array Value)[1]? = some (.int .i64 x28) ∧
 ∃ J29 : World → Prop,
 ((bif (!decide (x20 = 0)) then
 (R (.returned (.bool false)) w24)
 else
 ((bif (!decide (x28 = 264)) then
 (R (.returned (.bool false)) w24)
 else
 (∃ cs30 : List Value, List.length cs30 = 3 ∧ Cells w24 ⟨World.heap w |>.size, 0, none⟩ cs30 ∧
 ∃ cs31 : List Value, List.length cs31 = 3 ∧ Cells w24 ⟨World.heap w16 |>.size, 0, none⟩ cs31 ∧
 Calls Tryd.prog 22 #[(.agg (List.toArray cs30)), (.agg (List.toArray cs31))] w24 fun e32 w33 => ∃ x34 : Bool, e32 = .returned (.bool x34) ∧
 (bif (!x34) then
 (R (.returned (.bool false)) w33)
 else
 ((bif (decide (((x12n : Nat) : Int) < 14)) then
 (R (.returned (.bool false)) w33)
 else
 (J29  w33))))))))) ∧
 (∀ (w35 : World), J29  w35 →
 (2 : Int) ≠ 0 ∧ 0 ≤ (IntKind.wrap .i64 (Int.tdiv ((x12n : Nat) : Int) 2)) ∧ (IntKind.wrap .i64 (Int.tdiv ((x12n : Nat) : Int) 2)) < ((x12n : Nat) : Int) ∧ optK x12 fun a36 =>
 ∃ x37 : Int, World.cell? w35 (Addr.add a36 (Int.toNat (IntKind.wrap .i64 (Int.tdiv ((x12n : Nat) : Int) 2)) * 1)) = some (.int .u8 x37) ∧
 0 ≤ (IntKind.wrap .i64 (Int.tdiv ((x12n : Nat) : Int) 2)) ∧ (IntKind.wrap .i64 (Int.tdiv ((x12n : Nat) : Int) 2)) < ((x12n : Nat) : Int) ∧ optK x12 fun a38 =>
 one (.int .u8 (IntKind.wrap .u8 (x37 + 1))) = true ∧ Option.isSome (World.cell? w35 (Addr.add a38 (Int.toNat (IntKind.wrap .i64 (Int.tdiv ((x12n : Nat) : Int) 2)) * 1))) = true ∧ World.frozen? w35 (Addr.add a38 (Int.toNat (IntKind.wrap .i64 (Int.tdiv ((x12n : Nat) : Int) 2)) * 1)) = false ∧
 ∀ w39 : World, w39 = World.setCell w35 (Addr.add a38 (Int.toNat (IntKind.wrap .i64 (Int.tdiv ((x12n : Nat) : Int) 2)) * 1)) (.int .u8 (IntKind.wrap .u8 (x37 + 1))) →
 Calls Tryd.prog 18 #[(.slice x12 x12n x12c)] w39 fun e40 w41 => ∃ x42 : Array Value, ∃ x43 : Int, e40 = .returned (.tuple #[(.agg x42), (.int .i64 x43)]) ∧
 ∃ x44 : Array Value, (#[(.agg x42), (.int .i64 x43)] : Array Value)[0]? = some (.agg x44) ∧
 ∃ x45 : Int, (#[(.agg x42), (.int .i64 x43)] : Array Value)[1]? = some (.int .i64 x45) ∧
 (bif (!decide (x45 = 264)) then
 (R (.returned (.bool false)) w41)
 else
 (J14  w41))))
 else
 (J14  w9))) ∧
 (∀ (w46 : World), J14  w46 →
 Calls Tryd.prog 15 #[(.slice l1 l1n l1c)] w46 fun e47 w48 => ∃ (x49 : Option Addr) (x49n : Nat) (x49c : Nat), ∃ x50 : Int, e47 = .returned (.tuple #[(.slice x49 x49n x49c), (.int .i64 x50)]) ∧
 ∃ (x51 : Option Addr) (x51n : Nat) (x51c : Nat), (#[(.slice x49 x49n x49c), (.int .i64 x50)] : Array Value)[0]? = some (.slice x51 x51n x51c) ∧
 ∃ x52 : Int, (#[(.slice x49 x49n x49c), (.int .i64 x50)] : Array Value)[1]? = some (.int .i64 x52) ∧
 ∃ J53 : World → Prop,
 ((bif (decide (x52 = 0)) then
 (Calls Tryd.prog 20 #[(.slice x51 x51n x51c)] w48 fun e54 w55 => ∃ (x56 : Option Addr) (x56n : Nat) (x56c : Nat), ∃ x57 : Int, e54 = .returned (.tuple #[(.slice x56 x56n x56c), (.int .i64 x57)]) ∧
 ∃ (x58 : Option Addr) (x58n : Nat) (x58c : Nat), (#[(.slice x56 x56n x56c), (.int .i64 x57)] : Array Value)[0]? = some (.slice x58 x58n x58c) ∧
 ∃ x59 : Int, (#[(.slice x56 x56n x56c), (.int .i64 x57)] : Array Value)[1]? = some (.int .i64 x59) ∧
 Calls Tryd.prog 18 #[(.slice x51 x51n x51c)] w55 fun e60 w61 => ∃ x62 : Array Value, ∃ x63 : Int, e60 = .returned (.tuple #[(.agg x62), (.int .i64 x63)]) ∧
 ∃ x64 : Array Value, (#[(.agg x62), (.int .i64 x63)] : Array Value)[0]? = some (.agg x64) ∧
 ∃ x65 : Int, (#[(.agg x62), (.int .i64 x63)] : Array Value)[1]? = some (.int .i64 x65) ∧
 ∀ w66 : World, w66 = World.alloc w61 (.cells (zc Tryd.prog 37).toArray 37) →
 Array.size x64 = 3 ∧ (∀ u ∈ Array.toList x64, one u = true) ∧ Room w66 ⟨World.heap w61 |>.size, 0, none⟩ 3 ∧
 ∀ w67 : World, w67 = setCells w66 ⟨World.heap w61 |>.size, 0, none⟩ (Array.toList x64) 0 →
 (bif (!decide (x59 = 0)) then
 (R (.returned (.bool false)) w67)
 else
 ((bif (!decide (x65 = 264)) then
 (R (.returned (.bool false)) w67)
 else
 (Calls Tryd.prog 23 #[(.slice l1 l1n l1c), (.slice x58 x58n x58c)] w67 fun e68 w69 => ∃ x70 : Bool, e68 = .returned (.bool x70) ∧
 (bif (!x70) then
 (R (.returned (.bool false)) w69)
 else
 (J53  w69)))))))
 else
 (J53  w48))) ∧
 (∀ (w71 : World), J53  w71 →
 Calls Tryd.prog 18 #[(.slice b2 b2n b2c)] w71 fun e72 w73 => ∃ x74 : Array Value, ∃ x75 : Int, e72 = .returned (.tuple #[(.agg x74), (.int .i64 x75)]) ∧
 ∃ x76 : Array Value, (#[(.agg x74), (.int .i64 x75)] : Array Value)[0]? = some (.agg x76) ∧
 ∃ x77 : Int, (#[(.agg x74), (.int .i64 x75)] : Array Value)[1]? = some (.int .i64 x77) ∧
 ∀ w78 : World, w78 = World.alloc w73 (.cells (zc Tryd.prog 37).toArray 37) →
 Array.size x76 = 3 ∧ (∀ u ∈ Array.toList x76, one u = true) ∧ Room w78 ⟨World.heap w73 |>.size, 0, none⟩ 3 ∧
 ∀ w79 : World, w79 = setCells w78 ⟨World.heap w73 |>.size, 0, none⟩ (Array.toList x76) 0 →
 ∃ J80 : World → Prop,
 ((bif (decide (x77 = 0)) then
 (∃ cs81 : List Value, List.length cs81 = 3 ∧ Cells w79 ⟨World.heap w73 |>.size, 0, none⟩ cs81 ∧
 Calls Tryd.prog 12 #[(.agg (List.toArray cs81))] w79 fun e82 w83 => ∃ (x84 : Option Addr) (x84n : Nat) (x84c : Nat), ∃ x85 : Int, e82 = .returned (.tuple #[(.slice x84 x84n x84c), (.int .i64 x85)]) ∧
 ∃ (x86 : Option Addr) (x86n : Nat) (x86c : Nat), (#[(.slice x84 x84n x84c), (.int .i64 x85)] : Array Value)[0]? = some (.slice x86 x86n x86c) ∧
 ∃ x87 : Int, (#[(.slice x84 x84n x84c), (.int .i64 x85)] : Array Value)[1]? = some (.int .i64 x87) ∧
 (bif (!decide (x87 = 0)) then
 (R (.returned (.bool false)) w83)
 else
 (Calls Tryd.prog 17 #[(.slice x86 x86n x86c), (.slice b2 b2n b2c)] w83 fun e88 w89 => ∃ x90 : Bool, e88 = .returned (.bool x90) ∧
 (bif (!x90) then
 (R (.returned (.bool false)) w89)
 else
 (J80  w89)))))
 else
 (J80  w79))) ∧
 (∀ (w91 : World), J80  w91 →
 Calls Tryd.prog 20 #[(.slice b2 b2n b2c)] w91 fun e92 w93 => ∃ (x94 : Option Addr) (x94n : Nat) (x94c : Nat), ∃ x95 : Int, e92 = .returned (.tuple #[(.slice x94 x94n x94c), (.int .i64 x95)]) ∧
 ∃ (x96 : Option Addr) (x96n : Nat) (x96c : Nat), (#[(.slice x94 x94n x94c), (.int .i64 x95)] : Array Value)[0]? = some (.slice x96 x96n x96c) ∧
 ∃ x97 : Int, (#[(.slice x94 x94n x94c), (.int .i64 x95)] : Array Value)[1]? = some (.int .i64 x97) ∧
 (bif (decide (x97 = 0)) then
 (Calls Tryd.prog 15 #[(.slice x96 x96n x96c)] w93 fun e98 w99 => ∃ (x100 : Option Addr) (x100n : Nat) (x100c : Nat), ∃ x101 : Int, e98 = .returned (.tuple #[(.slice x100 x100n x100c), (.int .i64 x101)]) ∧
 ∃ (x102 : Option Addr) (x102n : Nat) (x102c : Nat), (#[(.slice x100 x100n x100c), (.int .i64 x101)] : Array Value)[0]? = some (.slice x102 x102n x102c) ∧
 ∃ x103 : Int, (#[(.slice x100 x100n x100c), (.int .i64 x101)] : Array Value)[1]? = some (.int .i64 x103) ∧
 (bif (decide (x103 = 0)) then
 (Calls Tryd.prog 17 #[(.slice x102 x102n x102c), (.slice b2 b2n b2c)] w99 fun e104 w105 => ∃ x106 : Bool, e104 = .returned (.bool x106) ∧
 R (.returned (.bool x106)) w105)
 else
 (R (.returned (.bool false)) w99)))
 else
 (R (.returned (.bool true)) w93)))))))
theorem e5 (p0 : Array Value) (l1 : Option Addr) (l1n : Nat) (l1c : Nat) (b2 : Option Addr) (b2n : Nat) (b2c : Nat) (w : World) (R : Ending → World → Prop) : denS Tryd.prog s5 (argsEnv 0 [(.agg p0), (.slice l1 l1n l1c), (.slice b2 b2n b2c)]) w (endK r5 R) = d5 p0 l1 l1n l1c b2 b2n b2c w R := by kernel_rfl
theorem c5 (p0 : Array Value) (l1 : Option Addr) (l1n : Nat) (l1c : Nat) (b2 : Option Addr) (b2n : Nat) (b2c : Nat) {w : World} {R : Ending → World → Prop} (h : d5 p0 l1 l1n l1c b2 b2n b2c w R) : Calls Tryd.prog 5 #[(.agg p0), (.slice l1 l1n l1c), (.slice b2 b2n b2c)] w R :=
  den5 [(.agg p0), (.slice l1 l1n l1c), (.slice b2 b2n b2c)] w R (by simp) ((e5 p0 l1 l1n l1c b2 b2n b2c w R).symm ▸ h)

end Go.Proofs.YtjchneebdlncfaaDoor.Fn
namespace Go.Proofs.YtjchneebdlncfaaDoor.Mrg
open Go Den Fn Lib
open Go.RowKit (Below)
open Classical
set_option maxRecDepth 8000
set_option maxHeartbeats 1000000
def putTx (v : Int) : Tx := ⟨1, [v], [], [(0, v)]⟩
theorem putTx_ok {v : Int} (h : I64 v) : (putTx v).ok := ⟨by unfold putTx I64; simp, by simpa [putTx] using h, by simp [putTx], by
  unfold putTx kI
  simp only [List.mem_singleton, forall_eq]
  exact ⟨by unfold I64; simp, h⟩⟩
theorem rises_one (k : Int × Int) (h : KeyOk k.1) : RisesS [k] := ⟨by simpa using h, fun i a b _ hb => by simp at hb⟩
theorem rises_nil : RisesS [] := ⟨by simp, fun i a b ha => by simp at ha⟩
theorem putTx_good (v : Int) : Lib.Good (putTx v) := ⟨by unfold putTx; simp, by unfold putTx; simp, by unfold putTx; simp, by unfold putTx; simp, rises_nil, rises_one _ (by unfold KeyOk; simp)⟩
theorem zcI64 : zc Tryd.prog 2 = [.int .i64 0] := by kernel_rfl
theorem put_c (v : Int) (w : World) (hv : I64 v) : Calls Tryd.prog 55 #[.int .i64 v] w fun e w' => ∃ cs, e = .returned (.agg cs.toArray) ∧ TxV (Btw w.heap.size w'.heap.size) w' cs (putTx v) ∧ Tch [] w w' := by
  refine c55 _ ?_
  unfold d55
  rintro w1 rfl
  rw [zcTx]
  have h1 := BlkT.new w [Value.int .i64 0, .slice none 0 0, .slice none 0 0, .slice none 0 0].toArray 76
  have t1 := (Tch.refl [] w).alloc (.cells [Value.int .i64 0, .slice none 0 0, .slice none 0 0, .slice none 0 0].toArray 76)
  have s1 := size_alloc w (.cells [Value.int .i64 0, .slice none 0 0, .slice none 0 0, .slice none 0 0].toArray 76)
  generalize w.alloc (.cells [Value.int .i64 0, .slice none 0 0, .slice none 0 0, .slice none 0 0].toArray 76) = w1 at *
  refine ⟨[.int .i64 v], by rw [zcI64]; rfl, ?_⟩
  rintro w3 rfl
  have h2 := BlkT.new w1 [Value.int .i64 v].toArray 2
  have t2 := (Tch.refl [] w1).alloc (.cells [Value.int .i64 v].toArray 2)
  have s2 := size_alloc w1 (.cells [Value.int .i64 v].toArray 2)
  generalize w1.alloc (.cells [Value.int .i64 v].toArray 2) = w3 at *
  refine ⟨kC (0, v), by rw [zcKey]; rfl, kC (0, v), by rw [zcKey]; rfl, ?_⟩
  rintro w6 rfl
  have h3 := BlkT.new w3 (kC (0, v)).toArray 129
  have t3 := (Tch.refl [] w3).alloc (.cells (kC (0, v)).toArray 129)
  have s3 := size_alloc w3 (.cells (kC (0, v)).toArray 129)
  generalize w3.alloc (.cells (kC (0, v)).toArray 129) = w6 at *
  refine ⟨[.int .i64 1, .slice (some ⟨w1.heap.size, 0, none⟩) 1 1, .slice none 0 0, .slice (some ⟨w3.heap.size, 0, none⟩) 1 1], by rfl, ?_⟩
  have hb := (h1.blk.tch t2 (by simp)).tch t3 (by simp)
  refine put_all (n := 4) hb rfl rfl (by simp [one]) fun w8 g1 t4 s4 => ?_
  refine get_all g1 rfl ?_
  have r2 : RSl w3 1 (some ⟨w1.heap.size, 0, none⟩) 1 1 (i64s [v]) := own_rsl (h2.own (base := 0) (Nat.zero_le _) rfl (by omega)) (by simp [one])
  have r3 : RSl w6 2 (some ⟨w3.heap.size, 0, none⟩) 1 1 (rows kC [(0, v)]) := own_rsl (h3.own (base := 0) (Nat.zero_le _) rfl (by omega)) kCs_one
  refine ⟨_, rfl, ⟨_, _, _, _, _, _, _, _, _, rfl, ⟨(r2.tch t3 (fun _ _ h => by cases h)).tch t4 ?_, .inr ?_⟩, ⟨⟨Nat.le_refl _, rfl, by simp [rows, putTx], .inl rfl⟩, .inl rfl⟩, ⟨r3.tch t4 ?_, .inr ?_⟩, putTx_ok hv⟩, ((t1.trans t2 (by simp)).trans t3 (by simp)).trans t4 (by simp)⟩
  · intro x hx hm; cases hx; simp at hm; omega
  · intro x hx; cases hx; exact ⟨by show _ ≤ w1.heap.size; omega, by show w1.heap.size < _; omega⟩
  · intro x hx hm; cases hx; simp at hm; omega
  · intro x hx; cases hx; exact ⟨by show _ ≤ w3.heap.size; omega, by show w3.heap.size < _; omega⟩
def Sm (x : Tx) : Prop := x.args.length ≤ 100000 ∧ x.reads.length ≤ 100000 ∧ x.writes.length ≤ 100000
theorem sameTx_c {F G : Nat → Prop} (w : World) (u v : List Value) (x y : Tx) (hx : TxV F w u x) (hy : TxV G w v y) (hs : Sm x) :
    Calls Tryd.prog 86 #[.agg u.toArray, .agg v.toArray] w fun e w' => e = .returned (.bool (decide (x = y))) ∧ Tch [] w w' := by
  obtain ⟨a1, n1, c1, a2, n2, c2, a3, n3, c3, rfl, h1, h2, h3, hxo⟩ := hx
  obtain ⟨b1, m1, d1, b2, m2, d2, b3, m3, d3, rfl, g1, g2, g3, hyo⟩ := hy
  have e1 := args_count h1
  have e2 := keys_count h2
  have e3 := keys_count h3
  have f1 := args_count g1
  have f2 := keys_count g2
  have f3 := keys_count g3
  obtain ⟨s1, s2, s3⟩ := hs
  refine c86 _ _ ?_
  unfold d86
  rintro w2 rfl w3 rfl
  have hS := ((St.refl w []).new [.int .i64 x.proc, .slice a1 n1 c1, .slice a2 n2 c2, .slice a3 n3 c3] 76 rfl).new [.int .i64 y.proc, .slice b1 m1 d1, .slice b2 m2 d2, .slice b3 m3 d3] 76 rfl
  generalize (w.alloc (.cells [Value.int .i64 x.proc, .slice a1 n1 c1, .slice a2 n2 c2, .slice a3 n3 c3].toArray 76)).alloc (.cells [Value.int .i64 y.proc, .slice b1 m1 d1, .slice b2 m2 d2, .slice b3 m3 d3].toArray 76) = w3 at *
  generalize (w.alloc (.cells [Value.int .i64 x.proc, .slice a1 n1 c1, .slice a2 n2 c2, .slice a3 n3 c3].toArray 76)).heap.size = qb at *
  generalize w.heap.size = pb at *
  have cx : ∀ {u : World} (q : Nat), St w [] u [fBlk qb [.int .i64 y.proc, .slice b1 m1 d1, .slice b2 m2 d2, .slice b3 m3 d3], fBlk pb [.int .i64 x.proc, .slice a1 n1 c1, .slice a2 n2 c2, .slice a3 n3 c3]] → u.cell? (Addr.add ⟨pb, 0, none⟩ q) = ([.int .i64 x.proc, .slice a1 n1 c1, .slice a2 n2 c2, .slice a3 n3 c3] : List Value)[q]? := fun q hS => by
    rw [add_mk, Nat.zero_add]; exact (hS.blk (b := pb) (by simp)).cell q
  have cy : ∀ {u : World} (q : Nat), St w [] u [fBlk qb [.int .i64 y.proc, .slice b1 m1 d1, .slice b2 m2 d2, .slice b3 m3 d3], fBlk pb [.int .i64 x.proc, .slice a1 n1 c1, .slice a2 n2 c2, .slice a3 n3 c3]] → u.cell? (Addr.add ⟨qb, 0, none⟩ q) = ([.int .i64 y.proc, .slice b1 m1 d1, .slice b2 m2 d2, .slice b3 m3 d3] : List Value)[q]? := fun q hS => by
    rw [add_mk, Nat.zero_add]; exact (hS.blk (b := qb) (by simp)).cell q
  have no : ∀ {w' : World}, x ≠ y → Tch [] w w' → (Ending.returned (.bool false) = .returned (.bool (decide (x = y))) ∧ Tch [] w w') := fun h ht => ⟨by rw [decide_eq_false h], ht⟩
  refine ⟨fun u => x.proc = y.proc ∧ n1 = m1 ∧ n2 = m2 ∧ n3 = m3 ∧ u = w3, ?_, ?_⟩
  · refine ⟨x.proc, cx 0 hS, y.proc, cy 0 hS, ?_⟩
    by_cases hp : x.proc = y.proc
    rotate_left
    · rw [bif_nneg hp]; exact no (fun h => hp (by rw [h])) hS.tch
    rw [bif_npos hp]
    refine ⟨a1, n1, c1, cx 1 hS, b1, m1, d1, cy 1 hS, ?_⟩
    by_cases q1 : n1 = m1
    rotate_left
    · rw [bif_nneg (by omega)]; exact no (fun h => q1 (by rw [← e1, ← f1, h])) hS.tch
    rw [bif_npos (by omega)]
    refine ⟨a2, n2, c2, cx 2 hS, b2, m2, d2, cy 2 hS, ?_⟩
    by_cases q2 : n2 = m2
    rotate_left
    · rw [bif_nneg (by omega)]; exact no (fun h => q2 (by rw [← e2, ← f2, h])) hS.tch
    rw [bif_npos (by omega)]
    refine ⟨a3, n3, c3, cx 3 hS, b3, m3, d3, cy 3 hS, ?_⟩
    by_cases q3 : n3 = m3
    · rw [bif_npos (by omega)]; exact ⟨hp, q1, q2, q3, rfl⟩
    · rw [bif_nneg (by omega)]; exact no (fun h => q3 (by rw [← e3, ← f3, h])) hS.tch
  rintro w13 ⟨hp, rfl, rfl, rfl, rfl⟩
  have snoc : ∀ {α : Type} {l m : List α} {i : Nat}, l.take i = m.take i → l[i]? = m[i]? → l.take (i + 1) = m.take (i + 1) := fun h1 h2 => by
    rw [List.take_add_one, List.take_add_one, h1, h2]
  refine ⟨fun q k u => ∃ i : Nat, k = i ∧ i ≤ n1 ∧ q = n1 - i ∧ x.args.take i = y.args.take i ∧ St w [] u [fBlk qb [.int .i64 y.proc, .slice b1 n1 d1, .slice b2 n2 d2, .slice b3 n3 d3], fBlk pb [.int .i64 x.proc, .slice a1 n1 c1, .slice a2 n2 c2, .slice a3 n3 c3]], ⟨n1, 0, rfl, by omega, rfl, rfl, hS⟩, ?_⟩
  clear hS
  rintro q w16 k ⟨i, rfl, hi, rfl, htk, hS⟩
  refine ⟨a1, n1, c1, cx 1 hS, ?_⟩
  by_cases hlt : i < n1
  · rw [bif_pos (by omega)]
    rintro w19 rfl
    replace hS := hS.drew
    generalize w16.drew = w19 at *
    refine ⟨a1, n1, c1, cx 1 hS, by omega, by omega, ?_⟩
    rw [Int.toNat_natCast]
    obtain ⟨x1, o1, rfl, k1⟩ := (h1.tch hS.tch (by simp)).1.int (i := i) hlt
    obtain ⟨y1, p1, rfl, k2⟩ := (g1.tch hS.tch (by simp)).1.int (i := i) hlt
    show ∃ _, _
    rw [add_mk, Nat.mul_one]
    refine ⟨_, k1, _, n1, d1, cy 1 hS, by omega, by omega, ?_⟩
    show ∃ _, _
    refine ⟨_, by rw [add_mk]; exact k2, ?_⟩
    have w1 : x.args[i]? = some (x.args[i]'(by omega)) := List.getElem?_eq_getElem (by omega)
    have w2 : y.args[i]? = some (y.args[i]'(by omega)) := List.getElem?_eq_getElem (by omega)
    rw [List.getD_eq_getElem?_getD, List.getD_eq_getElem?_getD, w1, w2, Option.getD_some, Option.getD_some]
    by_cases hd : x.args[i]'(by omega) = y.args[i]'(by omega)
    · rw [bif_npos hd]
      exact ⟨n1 - (i + 1), by omega, i + 1, by rw [wrap_i64 (by omega) (by omega)]; omega, by omega, rfl, snoc htk (by rw [w1, w2, hd]), hS⟩
    · rw [bif_nneg hd]
      exact no (fun h => hd (by subst h; rfl)) hS.tch
  rw [bif_neg (by omega)]
  have ha : x.args = y.args := by
    rw [List.take_of_length_le (by omega), List.take_of_length_le (by omega)] at htk
    exact htk
  refine ⟨fun q k u => ∃ i : Nat, k = i ∧ i ≤ n2 ∧ q = n2 - i ∧ x.reads.take i = y.reads.take i ∧ St w [] u [fBlk qb [.int .i64 y.proc, .slice b1 n1 d1, .slice b2 n2 d2, .slice b3 n3 d3], fBlk pb [.int .i64 x.proc, .slice a1 n1 c1, .slice a2 n2 c2, .slice a3 n3 c3]], ⟨n2, 0, rfl, by omega, rfl, rfl, hS⟩, ?_⟩
  clear hS htk
  rintro q w29 k ⟨j, rfl, hj, rfl, htk, hS⟩
  refine ⟨a2, n2, c2, cx 2 hS, ?_⟩
  by_cases hlt : j < n2
  · rw [bif_pos (by omega)]
    rintro w32 rfl
    replace hS := hS.drew
    generalize w29.drew = w32 at *
    refine ⟨a2, n2, c2, cx 2 hS, by omega, by omega, ?_⟩
    rw [Int.toNat_natCast]
    have w1 : x.reads[j]? = some (x.reads[j]'(by omega)) := List.getElem?_eq_getElem (by omega)
    have w2 : y.reads[j]? = some (y.reads[j]'(by omega)) := List.getElem?_eq_getElem (by omega)
    refine (h2.tch hS.tch (by simp)).1.elem kC_len (by omega) w1 ?_
    refine ⟨b2, n2, d2, cy 2 hS, by omega, by omega, ?_⟩
    refine (g2.tch hS.tch (by simp)).1.elem kC_len (by omega) w2 ?_
    refine neq_flat_d key_flat key_eqT (key_fits (hxo.reads _ (List.mem_of_getElem? w1))) (key_fits (hyo.reads _ (List.mem_of_getElem? w2))) kC_inj ?_
    by_cases hd : x.reads[j]'(by omega) = y.reads[j]'(by omega)
    · rw [bif_npos hd]
      exact ⟨n2 - (j + 1), by omega, j + 1, by rw [wrap_i64 (by omega) (by omega)]; omega, by omega, rfl, snoc htk (by rw [w1, w2, hd]), hS⟩
    · rw [bif_nneg hd]
      exact no (fun h => hd (by subst h; rfl)) hS.tch
  rw [bif_neg (by omega)]
  have hr : x.reads = y.reads := by
    rw [List.take_of_length_le (by omega), List.take_of_length_le (by omega)] at htk
    exact htk
  refine ⟨fun q k u => ∃ i : Nat, k = i ∧ i ≤ n3 ∧ q = n3 - i ∧ x.writes.take i = y.writes.take i ∧ St w [] u [fBlk qb [.int .i64 y.proc, .slice b1 n1 d1, .slice b2 n2 d2, .slice b3 n3 d3], fBlk pb [.int .i64 x.proc, .slice a1 n1 c1, .slice a2 n2 c2, .slice a3 n3 c3]], ⟨n3, 0, rfl, by omega, rfl, rfl, hS⟩, ?_⟩
  clear hS htk
  rintro q w43 k ⟨t, rfl, ht, rfl, htk, hS⟩
  refine ⟨a3, n3, c3, cx 3 hS, ?_⟩
  by_cases hlt : t < n3
  · rw [bif_pos (by omega)]
    rintro w46 rfl
    replace hS := hS.drew
    generalize w43.drew = w46 at *
    refine ⟨a3, n3, c3, cx 3 hS, by omega, by omega, ?_⟩
    rw [Int.toNat_natCast]
    have w1 : x.writes[t]? = some (x.writes[t]'(by omega)) := List.getElem?_eq_getElem (by omega)
    have w2 : y.writes[t]? = some (y.writes[t]'(by omega)) := List.getElem?_eq_getElem (by omega)
    refine (h3.tch hS.tch (by simp)).1.elem kC_len (by omega) w1 ?_
    refine ⟨b3, n3, d3, cy 3 hS, by omega, by omega, ?_⟩
    refine (g3.tch hS.tch (by simp)).1.elem kC_len (by omega) w2 ?_
    refine neq_flat_d key_flat key_eqT (key_fits (hxo.writes _ (List.mem_of_getElem? w1))) (key_fits (hyo.writes _ (List.mem_of_getElem? w2))) kC_inj ?_
    by_cases hd : x.writes[t]'(by omega) = y.writes[t]'(by omega)
    · rw [bif_npos hd]
      exact ⟨n3 - (t + 1), by omega, t + 1, by rw [wrap_i64 (by omega) (by omega)]; omega, by omega, rfl, snoc htk (by rw [w1, w2, hd]), hS⟩
    · rw [bif_nneg hd]
      exact no (fun h => hd (by subst h; rfl)) hS.tch
  rw [bif_neg (by omega)]
  have hw : x.writes = y.writes := by
    rw [List.take_of_length_le (by omega), List.take_of_length_le (by omega)] at htk
    exact htk
  refine ⟨?_, hS.tch⟩
  rw [decide_eq_true]
  cases x; cases y
  simp_all
def Smalls (l : List Tx) : Prop := l.length ≤ 100000 ∧ ∀ x ∈ l, Sm x
theorem sameBatch_c {F G : Nat → Prop} (w : World) (a b : Option Addr) (n c m mc : Nat) (l k : List Tx) (h : BatchV F w a n c l) (g : BatchV G w b m mc k) (hs : Smalls l) :
    Calls Tryd.prog 53 #[.slice a n c, .slice b m mc] w fun e w' => e = .returned (.bool (decide (l = k))) ∧ Tch [] w w' := by
  have hn := h.count
  have hm := g.count
  have hs0 := hs.1
  refine c53 _ _ _ _ _ _ ?_
  unfold d53
  by_cases he : n = m
  rotate_left
  · rw [bif_nneg (by omega)]
    exact ⟨by rw [decide_eq_false fun h => he (by rw [← hn, ← hm, h])], Tch.refl _ _⟩
  subst he
  rw [bif_npos rfl]
  refine ⟨fun q x u => ∃ i : Nat, x = i ∧ i ≤ n ∧ q = n - i ∧ l.take i = k.take i ∧ Tch [] w u, ⟨n, 0, rfl, by omega, rfl, rfl, Tch.refl _ _⟩, ?_⟩
  rintro q w4 x ⟨i, rfl, hi, rfl, htk, ht⟩
  by_cases hlt : i < n
  · rw [bif_pos (by omega)]
    rintro w6 rfl
    replace ht := ht.drew
    generalize w4.drew = w6 at *
    refine ⟨by omega, by omega, ?_⟩
    rw [Int.toNat_natCast]
    have w1 : l[i]? = some (l[i]'(by omega)) := List.getElem?_eq_getElem (by omega)
    have w2 : k[i]? = some (k[i]'(by omega)) := List.getElem?_eq_getElem (by omega)
    refine h.elemW ht w1 fun u hu => ?_
    refine ⟨by omega, by omega, ?_⟩
    refine g.elemW ht w2 fun v hv => ?_
    refine (sameTx_c w6 u v _ _ (hu.quiet ht) (hv.quiet ht) (hs.2 _ (List.mem_of_getElem? w1))).mono ?_
    rintro e w12 ⟨rfl, ht2⟩
    refine ⟨_, rfl, ?_⟩
    replace ht := ht.trans ht2 (by simp)
    by_cases hd : l[i]'(by omega) = k[i]'(by omega)
    · rw [bif_npos hd]
      refine ⟨n - (i + 1), by omega, i + 1, by rw [wrap_i64 (by omega) (by omega)]; omega, by omega, rfl, ?_, ht⟩
      rw [List.take_add_one, List.take_add_one, htk, w1, w2, hd]
    · rw [bif_nneg hd]
      exact ⟨by rw [decide_eq_false fun h => hd (by subst h; rfl)], ht⟩
  · rw [bif_neg (by omega)]
    rw [List.take_of_length_le (by omega), List.take_of_length_le (by omega)] at htk
    exact ⟨by rw [decide_eq_true htk], ht⟩
end Go.Proofs.YtjchneebdlncfaaDoor.Mrg
namespace Go.Proofs.YtjchneebdlncfaaDoor.Mrg
open Go Den Fn Lib
open Go.RowKit (Below)
open Classical
set_option maxRecDepth 8000
set_option maxHeartbeats 1000000
/-! ### A batch that grows -/
def Grow (B : Nat) (u : World) (x : Option Addr) (k c : Nat) (l : List Tx) : Prop := ∃ vs : List (List Value), vs.length = l.length ∧ k = l.length ∧ u.ownsRow B 76 4 (.slice x k c) k vs.flatten ∧
  ∀ (i : Nat) (v : List Value) (y : Tx), vs[i]? = some v → l[i]? = some y → TxV (fun z => Btw B u.heap.size z ∧ z ∉ rowL x) u v y
theorem Grow.nil (B : Nat) (u : World) : Grow B u none 0 0 [] := ⟨[], rfl, rfl, own_nil _ _ _ _, by simp⟩
theorem Grow.row {B : Nat} {u : World} {x : Option Addr} {k c : Nat} {l : List Tx} (h : Grow B u x k c l) : ∀ i ∈ rowL x, B ≤ i ∧ i < u.heap.size := h.elim fun _ h => rowL_ge h.2.2.1
theorem Grow.tch {B : Nat} {u u' : World} {x : Option Addr} {k c : Nat} {l : List Tx} {s : List Nat} (h : Grow B u x k c l) (ht : Tch s u u') (hs : ∀ z ∈ s, z < B ∨ u.heap.size ≤ z) : Grow B u' x k c l := by
  obtain ⟨vs, h1, h2, h3, h4⟩ := h
  have hq := ht.size
  refine ⟨vs, h1, h2, own_keep' h3 fun z hz hlt => ht.block z hlt fun hm => ?_, fun i v y hv hy => ((h4 i v y hv hy).tch ht fun z hz hh => ?_).mono fun z hz => ⟨⟨hz.1.1, by have := hz.1.2; omega⟩, hz.2⟩⟩
  · have := rowL_ge h3 z (mem_rowL.2 hz)
    rcases hs z hm with h | h <;> omega
  · have h1 := hh.1.1
    have h2 := hh.1.2
    rcases hs z hz with h | h <;> omega
theorem Grow.quiet {B : Nat} {u u' : World} {x : Option Addr} {k c : Nat} {l : List Tx} (h : Grow B u x k c l) (ht : Tch [] u u') : Grow B u' x k c l := h.tch ht (by simp)
theorem Grow.done {B : Nat} {u : World} {x : Option Addr} {k c : Nat} {l : List Tx} (h : Grow B u x k c l) : BatchV (Btw B u.heap.size) u x k c l := by
  obtain ⟨vs, h1, rfl, h3, h4⟩ := h
  refine ⟨vs, h1, (FR.own h3 ?_).mono fun _ h => h, fun i v y hv hy => (h4 i v y hv hy).mono fun _ h => h.1⟩
  intro u' hu
  obtain ⟨v, hv, hu⟩ := List.mem_flatten.1 hu
  obtain ⟨i, hi⟩ := List.getElem?_of_mem hv
  have hil := (List.getElem?_eq_some_iff.1 hi).1
  exact (h4 i v (l[i]'(by omega)) hi (List.getElem?_eq_getElem (by omega))).ones u' hu
/-- One more, that was made since u0. -/
theorem Grow.push {B : Nat} {u0 u : World} {x : Option Addr} {k c : Nat} {l : List Tx} (h : Grow B u0 x k c l) (tq : Tch [] u0 u) {v : List Value} {y : Tx} (hv : TxV (Btw u0.heap.size u.heap.size) u v y) (hB : B ≤ u0.heap.size) (hl : l.length ≤ 100000) {z : List Value} (hz : z.length = 4) {K : Option Addr → Nat → Nat → World → Prop}
    (hK : ∀ a' c' w', Grow B w' a' (k + 1) c' (l ++ [y]) → Tch (rowL x) u w' → (∀ i ∈ rowL x, B ≤ i) → K a' (k + 1) c' w') :
    ∃ cs, fillL (.elems 4) z [(0, .agg v.toArray)] = some cs ∧ ∀ w1 : World, w1 = World.alloc u (.cells (List.toArray cs) 76) →
      RunV Tryd.prog (Builtin.append_ #[35, 35] 35 #[.slice x k c, .slice (some ⟨World.heap u |>.size, 0, none⟩) 1 1]) w1 fun v w' => ∃ (x : Option Addr) (xn : Nat) (xc : Nat), v = (.slice x xn xc) ∧ K x xn xc w' := by
  have hrow0 := h.row
  have hs := tq.size
  obtain ⟨vs, h1, h2, h3, h4⟩ := h
  have hown := own_up h3 tq (fun _ _ h => by cases h)
  refine app_elem_at txT hown (by omega) (ys := v) rfl hv.len hv.ones (by omega) (by omega) (by omega) fun a5 c5 w34 o5 t5 m5 => ?_
  have q5 := t5.size
  refine hK a5 c5 w34 ⟨vs ++ [v], by simp [h1], by simp [h2], by simpa using o5, ?_⟩ t5 fun i hi => (hrow0 i hi).1
  have moved : ∀ {z : Nat}, z ∉ rowL x → z < u.heap.size → z ∉ rowL a5 := fun hz hlt hm => by
    rw [mem_rowL] at hm
    obtain ⟨ad, rfl, rfl⟩ := hm
    rcases m5 ad rfl with h | h
    · exact hz h
    · omega
  have keep : ∀ {P : Nat → Prop} {v : List Value} {y : Tx}, TxV P u v y → (∀ z, P z → Btw B u.heap.size z ∧ z ∉ rowL x) → TxV (fun z => Btw B w34.heap.size z ∧ z ∉ rowL a5) w34 v y := fun hfr hP =>
    (hfr.tch t5 fun z hz hp => (hP z hp).2 hz).mono fun z hp => ⟨⟨(hP z hp).1.1, by have := (hP z hp).1.2; omega⟩, moved (hP z hp).2 (hP z hp).1.2⟩
  intro i v' y' hv' hy'
  rw [List.getElem?_append] at hv' hy'
  split at hv'
  · rename_i hil
    rw [if_pos (by omega)] at hy'
    exact keep ((h4 i v' y' hv' hy').tch tq (by simp)) fun z h => ⟨⟨h.1.1, by have := h.1.2; omega⟩, h.2⟩
  · rename_i hil
    rw [if_neg (by omega)] at hy'
    by_cases h0 : i - vs.length = 0
    rotate_left
    · rw [List.getElem?_eq_none (by show 1 ≤ _; omega)] at hv'
      cases hv'
    rw [h0] at hv'
    rw [show i - l.length = 0 by omega] at hy'
    cases hv'; cases hy'
    exact keep hv fun z hz => ⟨⟨by have := hz.1; omega, by have := hz.2; omega⟩, fun hm => by have := (hrow0 z hm).2; have := hz.1; omega⟩

/-! ### Histories -/
structure Hist where
  inputs : Int
  first : Int
  txs : List (List Int)
def RowsV (w : World) : List Value → List (List Int) → Prop
  | [], [] => True
  | v :: vs, l :: ls => (∃ a n c, v = .slice a n c ∧ RSl w 1 a n c (i64s l) ∧ n ≤ 9223372036854775807 ∧ ∀ x ∈ l, I64 x) ∧ RowsV w vs ls
  | _, _ => False
theorem RowsV.quiet {w w' : World} (ht : Tch [] w w') : ∀ {vs : List Value} {ls : List (List Int)}, RowsV w vs ls → RowsV w' vs ls
  | [], [], _ => trivial
  | [], _ :: _, h => h.elim
  | _ :: _, [], h => h.elim
  | _ :: _, _ :: _, h => ⟨by obtain ⟨⟨a, n, c, h1, h2, h3⟩, _⟩ := h; exact ⟨a, n, c, h1, h2.tch ht (fun _ _ h => by cases h), h3⟩, RowsV.quiet ht h.2⟩
theorem RowsV.length {w : World} : ∀ {vs : List Value} {ls : List (List Int)}, RowsV w vs ls → vs.length = ls.length
  | [], [], _ => rfl
  | [], _ :: _, h => h.elim
  | _ :: _, [], h => h.elim
  | _ :: _, _ :: _, h => by simp [RowsV.length h.2]
theorem RowsV.get {w : World} : ∀ {vs : List Value} {ls : List (List Int)}, RowsV w vs ls → ∀ {i : Nat}, i < ls.length → ∃ a n c, vs[i]? = some (.slice a n c) ∧ RSl w 1 a n c (i64s (ls.getD i [])) ∧ n ≤ 9223372036854775807 ∧ ∀ x ∈ ls.getD i [], I64 x
  | [], [], _, i, h => by simp at h
  | [], _ :: _, h, _, _ => h.elim
  | _ :: _, [], h, _, _ => h.elim
  | v :: vs, l :: ls, h, 0, _ => by
    obtain ⟨⟨a, n, c, h1, h2, h3⟩, _⟩ := h
    exact ⟨a, n, c, by rw [h1]; rfl, h2, h3⟩
  | v :: vs, l :: ls, h, i + 1, hi => by
    simp only [List.getElem?_cons_succ, List.getD_cons_succ]
    exact RowsV.get h.2 (by simpa using hi)
/-- A history's cells. -/
def HistV (w : World) (cs : List Value) (h : Hist) : Prop := ∃ a n c vs, cs = [.int .i64 h.inputs, .int .i64 h.first, .slice a n c] ∧ RSl w 1 a n c vs ∧ n ≤ 9223372036854775807 ∧ RowsV w vs h.txs ∧ I64 h.inputs ∧ I64 h.first
theorem HistV.quiet {w w' : World} {cs : List Value} {h : Hist} (hh : HistV w cs h) (ht : Tch [] w w') : HistV w' cs h := by
  obtain ⟨a, n, c, vs, h1, h2, h3, h4, h5⟩ := hh
  exact ⟨a, n, c, vs, h1, h2.tch ht (fun _ _ h => by cases h), h3, h4.quiet ht, h5⟩
theorem HistV.len {w : World} {cs : List Value} {h : Hist} (hh : HistV w cs h) : cs.length = 3 := by
  obtain ⟨a, n, c, vs, rfl, _⟩ := hh; rfl
def hk (h : Hist) : Nat := 1 + (IntKind.wrap .u64 h.inputs).toNat % 16
def hf (h : Hist) : Nat := 1 + (IntKind.wrap .u64 h.first).toNat % 1000
def heps (h : Hist) : Nat := min 60 (h.txs.length / hk h)
def hb (h : Hist) (i e : Nat) : List Tx := ((h.txs.getD (e * hk h + i) []).take 64).map putTx
theorem hk_range (h : Hist) : 1 ≤ hk h ∧ hk h ≤ 16 := by unfold hk; omega
theorem hf_range (h : Hist) : 1 ≤ hf h ∧ hf h ≤ 1000 := by unfold hf; omega
theorem heps_range (h : Hist) : heps h ≤ 60 ∧ heps h * hk h ≤ h.txs.length := by
  have h1 := hk_range h
  unfold heps
  refine ⟨by omega, ?_⟩
  have : min 60 (h.txs.length / hk h) * hk h ≤ h.txs.length / hk h * hk h := Nat.mul_le_mul_right _ (by omega)
  have := Nat.div_mul_le_self h.txs.length (hk h)
  omega
theorem hb_good {h : Hist} {i e : Nat} : (hb h i e).length ≤ 64 ∧ ∀ x ∈ hb h i e, Lib.Good x := by
  unfold hb
  refine ⟨by simp; omega, fun x hx => ?_⟩
  obtain ⟨v, _, rfl⟩ := List.mem_map.1 hx
  exact putTx_good v
end Go.Proofs.YtjchneebdlncfaaDoor.Mrg
