/-
  What the functions of package bitwriter compute, of those that prefixenc uses; bytes to strings. Conditions: as each theorem states.
-/
import Derived.Test.YtajpnkioigcejaaEnc
import Derived.Test.YtajpnkioigcejaaIter
import Derived.Test.YtajpnkioigcejaaHeld
import Derived.Laws.BytesArg
namespace Go.Vc
open Go
/-- the string of some bytes -/
def strOf (b : List Nat) : ByteArray := strOfNums (b.map fun (x : Nat) => (x : Int))
theorem run_toStr {P : Program} {src e dst : TypeId} {s : Sl} {b : List Nat} {w : World} {K : ByteArray → World → Prop} (hs : P.underlying src = some (.slice e)) (he : P.underlying e = some (.int .u8)) (hd : P.underlying dst = some .string)
    (hh : SlT 1 s (b.map vB) w) (hK : K (strOf b) w) : Run P (convert src dst (.slice s.base s.len s.cap)) kStr w K := by
  have hl := hh.1
  simp only [List.length_map, Nat.mul_one] at hl
  have key : (convert src dst (.slice s.base s.len s.cap)).run P w = .ok (.string (strOf b)) w := by
    cases hb : s.base with
    | none =>
      have : b = [] := by
        cases b with
        | nil => rfl
        | cons x b =>
          obtain ⟨p, hp, _⟩ := hh.2 0 (by simp)
          rw [hb] at hp; cases hp
      subst this
      rw [run_convert_bytes_nil w src e hs he _ _ dst hd]; rfl
    | some p =>
      have hc : (loadCells p s.len).run P w = .ok ((b.map fun (x : Nat) => (x : Int)).map (Value.int .u8)).toArray w := by
        have := run_cells (P := P) (w := w) (vs := b.map vB) (p := p) (fun i hi => by
          obtain ⟨q, hq, hc⟩ := hh.2 i hi
          rw [hb] at hq
          cases hq
          exact hc)
        rw [List.length_map, hl] at this
        rw [this, List.map_map]; rfl
      rw [run_convert_bytes_string w src dst e _ _ _ hs he hd, run_bytesToString w _ _ _ _ hc, foldl_push_bytes]
      unfold strOf strOfNums
      simp [ByteArray.empty, ByteArray.emptyWithCapacity]
      rfl
  unfold Run
  rw [key]
  exact hK
end Go.Vc
namespace Go.Proofs.Ytajpnkioigcejaa
open Go Go.Vc Go.Srt Go.Bits
/-- a bit writer with these bits -/
def Wr (b : Nat) (bits : List Nat) : HP := fun f => ∃ s : Sl, (Srt.Bits bits ∧ bits.length ≤ big) ∧
  Sat [Blk b (.cells ⟨[.slice s.base s.len s.cap, .int .i64 (bits.length : Int)]⟩ 90 (0, 0)), OwnS 1 s ((pack bits).map vB)] f
section
variable {E w : World} {F A : List HP} {b : Nat} {bits : List Nat}
theorem Wr.opn (h : Hp E w (Wr b bits :: F)) : ∃ s : Sl, Srt.Bits bits ∧ bits.length ≤ big ∧ Hp E w (Blk b (.cells ⟨[.slice s.base s.len s.cap, .int .i64 (bits.length : Int)]⟩ 90 (0, 0)) :: OwnS 1 s ((pack bits).map vB) :: F) := by
  obtain ⟨s, ⟨h1, h2⟩, h⟩ := h.open1 (X := fun _ : Sl => Srt.Bits bits ∧ bits.length ≤ big) (L := fun s => [Blk b (.cells ⟨[.slice s.base s.len s.cap, .int .i64 (bits.length : Int)]⟩ 90 (0, 0)), OwnS 1 s ((pack bits).map vB)]) (fun f hf => hf)
  exact ⟨s, h1, h2, h⟩
theorem Wr.shut {s : Sl} (h1 : Srt.Bits bits) (h2 : bits.length ≤ big) (h : Hp E w (Blk b (.cells ⟨[.slice s.base s.len s.cap, .int .i64 (bits.length : Int)]⟩ 90 (0, 0)) :: OwnS 1 s ((pack bits).map vB) :: F)) : Hp E w (Wr b bits :: F) :=
  Hp.shut1 (l := [_, _]) (fun f hf => ⟨s, ⟨h1, h2⟩, hf⟩) h
theorem newW_c {K : Option Addr → World → Prop} (h : Hp E w F) (hK : ∀ b w', Hp E w' (Wr b [] :: F) → K (some ⟨b, 0, none⟩) w') : Cl Try.prog [kP] n_bitwriter_New ⟨[]⟩ w K := by
  refine bitwriter_New.ok _ _ ?_
  unfold bitwriter_New.E
  exact Nw.mk h fun b w1 h1 => hK b w1 (Wr.shut (s := ⟨none, 0, 0⟩) (fun x hx => by cases hx) (Nat.zero_le _) ((h1.ownNil 1).p1))
theorem fits_v_c {v width : Nat} {K : Bool → World → Prop} (hw : width ≤ 32) (hv : v < 2 ^ width) (hv2 : v ≤ 4294967295) (hK : K true w) : Cl Try.prog [kB] n_bitwriter_fits ⟨[.int .u32 (v : Int), .int .i64 (width : Int)]⟩ w K := by
  refine bitwriter_fits.ok _ _ _ _ ?_
  unfold bitwriter_fits.E
  refine IfB.t (decide_eq_true (by omega)) (IfB.t (decide_eq_true (by omega)) ⟨by omega, ?_⟩)
  rw [u64_id (by omega), ishr_nat (by have : IntKind.bits .u64 = 64 := rfl; omega), Nat.div_eq_of_lt hv]
  exact hK
theorem ty_bytes : ElemT Try.prog 44 5 1 1 := ElemT.of (by kernel_rfl) (by kernel_rfl)
theorem one_bit {x : Nat} (hx : x ≤ 1) : Srt.Bits [x] := fun y hy => by
  have : y = x := by simpa using hy
  omega
theorem vB_one {x : Nat} : ∀ y ∈ [vB x], scalarB y = true := fun y hy => by
  have : y = vB x := by simpa using hy
  subst this; rfl
theorem and7 (n : Nat) (h : n ≤ big) : iand .i64 (n : Int) 7 = ((n % 8 : Nat) : Int) := by
  have hm : IntKind.max .i64 = 9223372036854775807 := rfl
  rw [big_eq] at h
  rw [show (7 : Int) = ((7 : Nat) : Int) from rfl, iand_nat (by omega) (by omega), show (7 : Nat) = 2 ^ 3 - 1 from rfl, Nat.and_two_pow_sub_one_eq_mod]
set_option maxRecDepth 20000 in
theorem add_c {x : Nat} {K : World → Prop} (h : Hp E w (Wr b bits :: F)) (hx : x ≤ 1) (hbig : bits.length + 1 ≤ big) (hK : ∀ w', Hp E w' (Wr b (bits ++ [x]) :: F) → K w') :
    Cl Try.prog [] n_bitwriter_Writer_add ⟨[.pointer (some ⟨b, 0, none⟩), .int .u8 (x : Int)]⟩ w K := by
  refine bitwriter_Writer_add.ok _ _ _ _ ?_
  unfold bitwriter_Writer_add.E
  simp only [NilCk_some, add_mk, Nat.zero_add]
  obtain ⟨s, hb, hle, h1⟩ := Wr.opn h
  have hbg := hbig
  rw [big_eq] at hbg hle
  have hr8 : bits.length % 8 < 8 := Nat.mod_lt _ (by decide)
  refine Ld.blk (s := .int .i64) h1 (bits.length : Int) rfl ?_
  rw [and7 _ (by rw [big_eq]; omega)]
  have tail : ∀ (s' : Sl) (w2 : World), Hp E w2 (Blk b (.cells ⟨[.slice s'.base s'.len s'.cap, .int .i64 (bits.length : Int)]⟩ 90 (0, 0)) :: OwnS 1 s' ((room bits).map vB) :: F) →
      Drw w2 fun (w_13 : World) => Ld kS (⟨b, 0, none⟩ : Addr) w_13 fun (b15 : Sl) => Ld kI (⟨b, 1, none⟩ : Addr) w_13 fun (many17 : Int) => 0 ≤ (3 : Int) ∧ Idx b15 (ishr .i64 many17 3) 1 fun (q18 : Addr) => Ld (kInt .u8) q18 w_13 fun (x19 : Int) =>
        Ld kI (⟨b, 1, none⟩ : Addr) w_13 fun (many21 : Int) => 0 ≤ ((i64 ((7 : Int) - (iand .i64 many21 7))) : Int) ∧ Idx b15 (ishr .i64 many17 3) 1 fun (q22 : Addr) =>
        St q22 (.int .u8 (ior .u8 x19 (ishl .u8 (x : Int) (i64 ((7 : Int) - (iand .i64 many21 7)))))) w_13 fun (w_23 : World) => Ld kI (⟨b, 1, none⟩ : Addr) w_23 fun (many25 : Int) => St (⟨b, 1, none⟩ : Addr) (.int .i64 (i64 (many25 + 1))) w_23 fun (w_27 : World) => K w_27 := by
    intro s' w2 h2
    refine Drw.mk h2 fun w3 h3 => Ld.blk (s := .sl) h3 s' rfl (Ld.blk (s := .int .i64) h3 (bits.length : Int) rfl ⟨by decide, ?_⟩)
    have hol := h3.p1.ownLen
    have hrl : (room bits).length = bits.length / 8 + 1 := packTo_len _ _
    rw [List.length_map, hrl, Nat.mul_one] at hol
    have e3 : ishr .i64 (bits.length : Int) 3 = ((bits.length / 8 : Nat) : Int) := by
      rw [show (3 : Int) = ((3 : Nat) : Int) from rfl, ishr_nat (by decide)]
    rw [e3]
    refine Idx.rd (h3.tells (Tells.cons Tells.own)) (by omega) (by omega) fun q hq hc => ?_
    have hby : ((room bits).map vB)[((bits.length / 8 : Nat) : Int).toNat]'hq = .int .u8 (by8 bits (bits.length / 8) : Int) := by
      rw [List.getElem_map]
      have := packTo_get (b := bits) (m := bits.length / 8 + 1) (j := bits.length / 8) (by omega)
      rw [getD_get (by rw [packTo_len]; omega)] at this
      show vB _ = _
      unfold vB
      rw [← this]; rfl
    refine Ld.sc (s := .int .u8) (by8 bits (bits.length / 8) : Int) (by rw [hc, hby]) (Ld.blk (s := .int .i64) h3 (bits.length : Int) rfl ?_)
    rw [and7 _ (by rw [big_eq]; omega), i64_id (x := (7 : Int) - ((bits.length % 8 : Nat) : Int)) (by omega), show (7 : Int) - ((bits.length % 8 : Nat) : Int) = ((7 - bits.length % 8 : Nat) : Int) by omega]
    have hnew := by8_lt (hb.app (one_bit hx)) (bits.length / 8)
    rw [by8_snoc, if_pos rfl] at hnew
    have hm8 : IntKind.max .u8 = 255 := rfl
    have e4 : ishl .u8 (x : Int) ((7 - bits.length % 8 : Nat) : Int) = ((x * 2 ^ (7 - bits.length % 8) : Nat) : Int) := ishl_nat (by have : IntKind.bits .u8 = 8 := rfl; omega) (by omega)
    have e5 := or_bit8 hr8 (by8_dvd bits) hx
    rw [e4, ior_nat (by omega) (by omega) (by rw [e5]; omega), e5]
    refine ⟨by omega, ?_⟩
    refine St.own h3.p1 (by omega) (by omega) rfl fun w4 h4 => ?_
    refine Ld.blk (s := .int .i64) h4.p1 (bits.length : Int) rfl ?_
    rw [i64_id (by omega)]
    refine St.blk h4.p1 (show 1 < 2 by decide) rfl fun w5 h5 => hK w5 (Wr.shut (s := s') (hb.app (one_bit hx)) (by simpa using hbig) ?_)
    rw [pack_snoc]
    have : ((room bits).set (bits.length / 8) (by8 bits (bits.length / 8) + x * 2 ^ (7 - bits.length % 8))).map vB = ((room bits).map vB).set ((bits.length / 8 : Nat) : Int).toNat (.int .u8 ((by8 bits (bits.length / 8) + x * 2 ^ (7 - bits.length % 8) : Nat) : Int)) := by
      rw [Int.toNat_natCast, List.map_set]; rfl
    rw [this, List.length_append, List.length_singleton]
    exact h5
  refine IfB.mk (fun hz => ?_) (fun hz => ?_)
  · have hz : bits.length % 8 = 0 := by rw [beq_iff_eq] at hz; omega
    refine Ld.blk (s := .sl) h1 s rfl (Nw.mk h1 fun b8 w2 h2 => ?_)
    have hol := h2.p2.ownLen
    rw [List.length_map, pack_len, Nat.mul_one] at hol
    refine run_append (ys := [vB 0]) (n := 1) ty_bytes (by decide) (.inl ⟨5, by kernel_rfl⟩) h2.p2 (.inl ⟨some ⟨b8, 0, none⟩, 1, 1, rfl, rfl, h2.tells (Tells.blk rfl rfl)⟩) rfl vB_one (by omega) (by omega) fun s' w3 h3 hs' => ?_
    refine St.blk h3.p2 (show 0 < 2 by decide) rfl fun w4 h4 => ?_
    refine tail s' w4 ?_
    have e : (room bits).map vB = (pack bits).map vB ++ [vB 0] := by rw [room_eq, if_pos hz, List.map_append]; rfl
    rw [e]
    exact h4.p2.drop
  · have hz : bits.length % 8 ≠ 0 := by have := beq_eq_false_iff_ne.1 hz; omega
    refine tail s w ?_
    rw [room_eq, if_neg hz]
    exact h1
theorem lenW_c {K : Int → World → Prop} (h : Hp E w (Wr b bits :: F)) (hK : ∀ w', Hp E w' (Wr b bits :: F) → K (bits.length : Int) w') : Cl Try.prog [kI] n_bitwriter_Writer_Len ⟨[.pointer (some ⟨b, 0, none⟩)]⟩ w K := by
  refine bitwriter_Writer_Len.ok _ _ _ ?_
  unfold bitwriter_Writer_Len.E
  simp only [NilCk_some, add_mk, Nat.zero_add]
  obtain ⟨s, hb, hle, h1⟩ := Wr.opn h
  exact IfB.f rfl (Ld.blk (s := .int .i64) h1 (bits.length : Int) rfl (hK w h))
set_option maxRecDepth 20000 in
theorem bytesW_c {K : Sl → World → Prop} (h : Hp E w (Wr b bits :: F)) (hK : ∀ s w', Hp E w' (OwnS 1 s ((pack bits).map vB) :: Wr b bits :: F) → K s w') : Cl Try.prog [kS] n_bitwriter_Writer_Bytes ⟨[.pointer (some ⟨b, 0, none⟩)]⟩ w K := by
  refine bitwriter_Writer_Bytes.ok _ _ _ ?_
  unfold bitwriter_Writer_Bytes.E
  simp only [NilCk_some, add_mk, Nat.zero_add]
  obtain ⟨s, hb, hle, h1⟩ := Wr.opn h
  refine IfB.f rfl (Ld.blk (s := .sl) h1 s rfl (bytes_Clone.ok _ _ _ ?_))
  unfold bytes_Clone.E
  have hol := h1.p1.ownLen
  have hpl := pack_len bits
  rw [List.length_map, Nat.mul_one] at hol
  rw [big_eq] at hle
  refine IfB.mk (fun hn => ?_) (fun hn => ?_)
  · have hn : s.base = none := by simpa using hn
    obtain ⟨rfl, he, h2⟩ | ⟨b0, off, arr, t, hbase, _⟩ := h1.p1.ownOpen
    · refine hK _ w ?_
      rw [he]
      refine Hp.ownNil (Wr.shut (s := ⟨none, 0, 0⟩) hb (by rw [big_eq]; exact hle) ?_) 1
      rw [he]
      exact (h2.ownNil 1).p1
    · rw [hn] at hbase; cases hbase
  · refine Nw.mk h1 fun b3 w2 h2 => ?_
    have h3 := h2.ownNew (n := 0) (sz := 1) rfl
    have hsrc : SlT 1 s ((pack bits).map vB) w2 := h2.tells (Tells.cons (Tells.cons Tells.own))
    refine run_append (s := ⟨some ⟨b3, 0, none⟩, 0, 0⟩) (ys := (pack bits).map vB) (n := s.len) ty_bytes (by decide) (.inl ⟨5, by kernel_rfl⟩) h3 (.inl ⟨s.base, s.len, s.cap, rfl, rfl, hsrc⟩) (by rw [List.length_map, Nat.mul_one]; exact hol) vB_scalar (by show (2 * (0 + s.len) + 1024) * 1 ≤ 2 ^ 48; omega) (by show 0 + s.len < 2 ^ 62; omega) fun s' w4 h4 _ => ?_
    exact hK s' w4 (Wr.shut (s := s) hb (by rw [big_eq]; exact hle) h4.q2).p1
set_option maxRecDepth 20000 in
theorem down_iter {v width b4 b6 : Nat} (hw : width ≤ 32) (hv : v ≤ 4294967295) : Iter Try.prog E (.func (.func n_bitwriter_down_1) ⟨[]⟩ ⟨[.pointer (some ⟨b6, 0, none⟩), .pointer (some ⟨b4, 0, none⟩)]⟩) width (fun i => [Ki.enc (kInt .u8) ((v / 2 ^ (width - 1 - i) % 2 : Nat) : Int)])
    (Blk b6 (.cells ⟨[.int .i64 (width : Int)]⟩ 3 (0, 0)) :: Blk b4 (.cells ⟨[.int .u32 (v : Int)]⟩ 58 (0, 0)) :: A) := by
  intro yv C G w K hy h hK hKG
  refine ClV.mk (by kernel_rfl) (bitwriter_down_1.ok yv ⟨b6, 0, none⟩ ⟨b4, 0, none⟩ K w ?_)
  unfold bitwriter_down_1.E
  have h0 := h.perm (List.perm_middle.trans (List.Perm.cons _ List.perm_middle))
  refine Ld.blk (s := .int .i64) h0 (width : Int) rfl ?_
  refine ⟨fun i w' => ∃ k : Nat, i = (width : Int) - 1 - (k : Int) ∧ k ≤ width ∧ Hp E w' (Blk b6 (.cells ⟨[.int .i64 (width : Int)]⟩ 3 (0, 0)) :: Blk b4 (.cells ⟨[.int .u32 (v : Int)]⟩ 58 (0, 0)) :: (C k ++ A)), fun i _ => (i + 1).toNat, ⟨0, by rw [i64_id (by omega)]; omega, by omega, h0⟩, ?_⟩
  rintro i w1 ⟨k, rfl, hk, h1⟩
  refine IfB.mk (fun hge => ?_) (fun hlt => ?_)
  · have hlt : k < width := by have := of_decide_eq_true hge; omega
    refine Ld.blk (s := .int .u32) h1.p1 (v : Int) rfl ⟨by omega, ?_⟩
    have hd : v / 2 ^ (width - 1 - k) ≤ v := Nat.div_le_self _ _
    have e : iand .u8 (u8 (ishr .u32 (v : Int) ((width : Int) - 1 - (k : Int)))) 1 = ((v / 2 ^ (width - 1 - k) % 2 : Nat) : Int) := by
      have hm : IntKind.max .u8 = 255 := rfl
      rw [show (width : Int) - 1 - (k : Int) = ((width - 1 - k : Nat) : Int) by omega, ishr_nat (by have : IntKind.bits .u32 = 32 := rfl; omega), u8_mod, show (((v / 2 ^ (width - 1 - k) : Nat) : Int) % 256) = ((v / 2 ^ (width - 1 - k) % 256 : Nat) : Int) by omega,
        show (1 : Int) = ((1 : Nat) : Int) from rfl, iand_nat (by omega) (by omega), Nat.and_one_is_mod]
      omega
    rw [e]
    refine hy k hlt (Blk b6 (.cells ⟨[.int .i64 (width : Int)]⟩ 3 (0, 0)) :: Blk b4 (.cells ⟨[.int .u32 (v : Int)]⟩ 58 (0, 0)) :: A) w1 _ (h1.perm ((List.Perm.cons _ List.perm_middle.symm).trans List.perm_middle.symm)) (fun w5 h5 => ?_) (fun w5 h5 => ?_)
    · refine IfB.f rfl ⟨rfl, ⟨k + 1, by rw [i64_id (by omega)]; omega, by omega, h5.perm (List.perm_middle.trans (List.Perm.cons _ List.perm_middle))⟩, by dsimp only; rw [i64_id (by omega)]; omega⟩
    · exact IfB.t rfl (hKG k w5 hlt h5)
  · have hge : k = width := by have := of_decide_eq_false hlt; omega
    subst hge
    exact hK _ (h1.perm ((List.Perm.cons _ List.perm_middle.symm).trans List.perm_middle.symm))
theorem putW_c {v width : Nat} {K : Bool → World → Prop} (h : Hp E w (Wr b bits :: F)) (hw : width ≤ 32) (hv : v < 2 ^ width) (hv2 : v ≤ 4294967295) (hbig : bits.length + width ≤ big) (hK : ∀ w', Hp E w' (Wr b (bits ++ bn width v) :: F) → K true w') :
    Cl Try.prog [kB] n_bitwriter_Writer_Put ⟨[.pointer (some ⟨b, 0, none⟩), .int .u32 (v : Int), .int .i64 (width : Int)]⟩ w K := by
  refine bitwriter_Writer_Put.ok _ _ _ _ _ ?_
  unfold bitwriter_Writer_Put.E
  refine Nw.mk h fun b5 w1 h1 => Ld.blk (s := .ptr) h1 (some ⟨b, 0, none⟩) rfl (IfB.f rfl (fits_v_c hw hv hv2 (IfB.f rfl (bitwriter_down.ok _ _ _ _ ?_))))
  unfold bitwriter_down.E
  refine Nw.mk h1 fun b4 w2 h2 => Nw.mk h2 fun b6 w3 h3 => ?_
  have h3 : Hp E w3 ([Blk b5 (.cells ⟨[.pointer (some ⟨b, 0, none⟩)]⟩ 54 (0, 0)), Wr b (bits ++ (bn width v).take 0)] ++ (Blk b6 (.cells ⟨[.int .i64 (width : Int)]⟩ 3 (0, 0)) :: Blk b4 (.cells ⟨[.int .u32 (v : Int)]⟩ 58 (0, 0)) :: F)) := by
    rw [List.take_zero, List.append_nil]
    exact h3.p3.p3
  have hbl := bn_len width v
  refine Rng.mk1 (k := kInt .u8) (x := fun i => ((v / 2 ^ (width - 1 - i) % 2 : Nat) : Int)) (n := width) (fun i => [Blk b5 (.cells ⟨[.pointer (some ⟨b, 0, none⟩)]⟩ 54 (0, 0)), Wr b (bits ++ (bn width v).take i)]) (fun _ => [Nope]) h3 (down_iter hw hv2) ?_ ?_ ?_
  · intro lr rec i A w5 Kt Kf hi h5 hKt _
    have h5 : Hp E w5 (Blk lr (rec 0) :: Blk b5 (.cells ⟨[.pointer (some ⟨b, 0, none⟩)]⟩ 54 (0, 0)) :: Wr b (bits ++ (bn width v).take i) :: A) := h5
    refine Beg.mk h5 fun w6 h6 => Ld.blk (s := .ptr) h6.p1 (some ⟨b, 0, none⟩) rfl ?_
    refine add_c h6.p2 (by omega) (by rw [List.length_append, List.length_take, hbl]; omega) fun w7 h7 => EndT.mk h7.p1 fun w8 h8 => hKt w8 ?_
    have e : (bits ++ (bn width v).take i) ++ [v / 2 ^ (width - 1 - i) % 2] = bits ++ (bn width v).take (i + 1) := by
      rw [List.append_assoc, List.take_add_one, List.getElem?_eq_getElem (by rw [hbl]; exact hi), ← bn_get width v i hi, getD_get (by rw [hbl]; exact hi)]; rfl
    rw [e] at h8
    exact h8.p2.p1
  · intro D w5 h5
    have h5 : Hp E w5 (Blk D (.deferred (some [])) :: Blk b5 (.cells ⟨[.pointer (some ⟨b, 0, none⟩)]⟩ 54 (0, 0)) :: Wr b (bits ++ (bn width v).take width) :: Blk b6 (.cells ⟨[.int .i64 (width : Int)]⟩ 3 (0, 0)) :: Blk b4 (.cells ⟨[.int .u32 (v : Int)]⟩ 58 (0, 0)) :: F) := h5
    rw [List.take_of_length_le (by omega)] at h5
    exact Dfr.mk1 h5 fun w6 h6 => hK w6 h6.drop.p1.drop.p1.drop
  · intro i D w5 hi h5
    exact (Hp.nope h5).elim
end
end Go.Proofs.Ytajpnkioigcejaa
