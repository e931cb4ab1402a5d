/-
  The law PrefixEncParts of winepresslaw11. Conditions: as each theorem states.
-/
import Derived.Test.YtajpnkioigcejaaLaw11c
namespace Go.Proofs.Ytajpnkioigcejaa
open Go Go.Vc Go.Srt Go.Bits
def okZ (l : List Nat) (zs : List Int) : Bool := decide (ksum l ≤ 32768) && allG l zs
def erZ (l : List Nat) (zs : List Int) : Int := if okZ l zs then 0 else 2
def ezZ (l : List Nat) (zs : List Int) : List Nat := if okZ l zs then encZ l zs else []
theorem okZ_t {l : List Nat} {zs : List Int} (h1 : ksum l ≤ 32768) (h2 : allG l zs = true) : okZ l zs = true := by simp [okZ, h1, h2]
theorem okZ_f {l : List Nat} {zs : List Int} (h : ¬ (ksum l ≤ 32768 ∧ allG l zs = true)) : okZ l zs = false := by
  simp only [okZ, Bool.and_eq_false_iff, decide_eq_false_iff_not]
  by_cases hv : ksum l ≤ 32768
  · right; cases hg : allG l zs with
    | true => exact absurd ⟨hv, hg⟩ h
    | false => rfl
  · exact .inl hv
theorem ezZ_bits (l : List Nat) (zs : List Int) : Srt.Bits (ezZ l zs) := by
  unfold ezZ; split
  · exact encZ_bits l zs
  · intro x hx; cases hx
theorem ezZ_le (l : List Nat) (zs : List Int) : (ezZ l zs).length ≤ 15 * zs.length := by
  unfold ezZ; split
  · rename_i h
    refine encZ_le ?_ zs
    simp only [okZ, Bool.and_eq_true, decide_eq_true_eq] at h
    exact h.1
  · simp
theorem okZ_app (l : List Nat) (a b : List Int) : okZ l (a ++ b) = (okZ l a && okZ l b) := by
  simp only [okZ, allG, List.all_append]
  cases decide (ksum l ≤ 32768) <;> simp
theorem encZ_app (l : List Nat) (a b : List Int) : encZ l (a ++ b) = encZ l a ++ encZ l b := by
  unfold encZ; rw [List.map_append, enc_app]
section
variable {E w : World} {F : List HP}
theorem size1 {l : List Nat} {s : Sl} {zs : List Int} {K : Int → Int → World → Prop} (h : Hp E w F) (hl : l.length = 258) (hs : Tells F (SlT 1 s (zs.map vI))) (hn : zs.length ≤ 100000)
    (hK : ∀ w', Hp E w' F → K ((ezZ l zs).length : Int) (erZ l zs) w') : Cl Try.prog [kI, kI] n_prefixenc_Size ⟨[.agg (ai .u8 l), .slice s.base s.len s.cap]⟩ w K :=
  size_c h hl hs hn (fun hb w' h' => by have := hK w' h'; rwa [ezZ, erZ, okZ_f hb] at this) (fun h1 h2 w' h' => by have := hK w' h'; rwa [ezZ, erZ, okZ_t h1 h2] at this)
theorem rSize1 {l : List Nat} {s : Sl} {zs : List Int} {K : Int → Int → World → Prop} (h : Hp E w F) (hl : l.length = 258) (h8 : ∀ x ∈ l, x ≤ 255) (hs : Tells F (SlT 1 s (zs.map vI))) (hn : zs.length ≤ 100000)
    (hK : ∀ w', Hp E w' F → K ((ezZ l zs).length : Int) (erZ l zs) w') : Cl Try.prog [kI, kI] n_ref11_Size ⟨[.agg (ai .u8 l), .slice s.base s.len s.cap]⟩ w K :=
  rSize11_c h hl h8 hs hn (fun hb w' h' => by have := hK w' h'; rwa [ezZ, erZ, okZ_f hb] at this) (fun h1 h2 w' h' => by have := hK w' h'; rwa [ezZ, erZ, okZ_t h1 h2] at this)
theorem put1 {l : List Nat} {s : Sl} {zs : List Int} {b : Nat} {bits : List Nat} {K : Int → World → Prop} (h : Hp E w (Wr b bits :: F)) (hl : l.length = 258) (hs : Tells F (SlT 1 s (zs.map vI))) (hn : zs.length ≤ 100000) (hbig : bits.length ≤ 100000000)
    (hK : ∀ w', Hp E w' (Wr b (bits ++ ezZ l zs) :: F) → K (erZ l zs) w') : Cl Try.prog [kI] n_prefixenc_Put ⟨[.pointer (some ⟨b, 0, none⟩), .agg (ai .u8 l), .slice s.base s.len s.cap]⟩ w K :=
  putE_c h hl hs hn hbig (fun hb w' h' => by have := hK w'; rw [ezZ, erZ, okZ_f hb] at this; exact this (by simpa using h')) (fun h1 h2 w' h' => by have := hK w'; rw [ezZ, erZ, okZ_t h1 h2] at this; exact this h')
theorem spell1 {l : List Nat} {s : Sl} {zs : List Int} {K : Sl → Int → Int → World → Prop} (h : Hp E w F) (hl : l.length = 258) (hs : Tells F (SlT 1 s (zs.map vI))) (hn : zs.length ≤ 100000)
    (hK : ∀ s' w', Hp E w' (OwnS 1 s' ((pack (ezZ l zs)).map vB) :: F) → K s' ((ezZ l zs).length : Int) (erZ l zs) w') : Cl Try.prog [kS, kI, kI] n_prefixenc_Spell ⟨[.agg (ai .u8 l), .slice s.base s.len s.cap]⟩ w K :=
  spellE_c h hl hs hn (fun hb w' h' => by have := hK ⟨none, 0, 0⟩ w'; rw [ezZ, erZ, okZ_f hb] at this; exact this (by rw [if_neg (by decide), show pack [] = [] from by decide]; exact h'.ownNil 1)) (fun h1 h2 s' w' h' => by have := hK s' w'; rw [ezZ, erZ, okZ_t h1 h2] at this; exact this h')
theorem rSpell1 {l : List Nat} {s : Sl} {zs : List Int} {K : Sl → Int → Int → World → Prop} (h : Hp E w F) (hl : l.length = 258) (h8 : ∀ x ∈ l, x ≤ 255) (hs : Tells F (SlT 1 s (zs.map vI))) (hn : zs.length ≤ 100000)
    (hK : ∀ s' w', Hp E w' (OwnS 1 s' ((pack (ezZ l zs)).map vB) :: F) → K s' ((ezZ l zs).length : Int) (erZ l zs) w') : Cl Try.prog [kS, kI, kI] n_ref11_Spell ⟨[.agg (ai .u8 l), .slice s.base s.len s.cap]⟩ w K :=
  rSpell11_c h hl h8 hs hn (fun hb w' h' => by have := hK ⟨none, 0, 0⟩ w'; rw [ezZ, erZ, okZ_f hb] at this; exact this (by rw [if_neg (by decide), show pack [] = [] from by decide]; exact h'.ownNil 1)) (fun h1 h2 s' w' h' => by have := hK s' w'; rw [ezZ, erZ, okZ_t h1 h2] at this; exact this h')
theorem rBits1 {l : List Nat} {s : Sl} {zs : List Int} {K : Sl → Bool → World → Prop} (h : Hp E w F) (hl : l.length = 258) (h8 : ∀ x ∈ l, x ≤ 255) (hs : Tells F (SlT 1 s (zs.map vI))) (hn : zs.length ≤ 100000)
    (hK : ∀ s' w', Hp E w' (OwnS 1 s' ((ints (ezZ l zs)).map vI) :: F) → K s' (okZ l zs) w') : Cl Try.prog [kS, kB] n_ref11_Bits ⟨[.agg (ai .u8 l), .slice s.base s.len s.cap]⟩ w K :=
  rBits_c h hl h8 hs hn (fun hb w' h' => by have := hK ⟨none, 0, 0⟩ w'; rw [ezZ, okZ_f hb] at this; exact this (h'.ownNil 1)) (fun h1 h2 s' w' h' => by have := hK s' w'; rw [ezZ, okZ_t h1 h2] at this; exact this h')
def erR (o : Option (List Nat)) : Int := if o.isSome then 0 else 2
theorem read1 {l : List Nat} {s : Sl} {bs : List Nat} {many : Int} {K : Sl → Int → World → Prop} (h : Hp E w F) (hl : l.length = 258) (hs : Tells F (SlT 1 s (bs.map vB))) (hb : ∀ y ∈ bs, y < 256) (hn : bs.length ≤ 100000)
    (hK : ∀ s' w', Hp E w' (OwnS 1 s' ((ints ((rdZ l bs many).getD [])).map vI) :: F) → K s' (erR (rdZ l bs many)) w') : Cl Try.prog [kS, kI] n_prefixenc_Read ⟨[.agg (ai .u8 l), .slice s.base s.len s.cap, .int .i64 many]⟩ w K :=
  readE_c h hl hs hb hn (fun hb w' h' => by have := hK ⟨none, 0, 0⟩ w'; rw [hb] at this; exact this (h'.ownNil 1)) (fun out ho s' w' h' => by have := hK s' w'; rw [ho] at this; exact this h')
theorem rRead1 {l : List Nat} {s : Sl} {bs : List Nat} {many : Int} {K : Sl → Int → World → Prop} (h : Hp E w F) (hl : l.length = 258) (h8 : ∀ x ∈ l, x ≤ 255) (hs : Tells F (SlT 1 s (bs.map vB))) (hb : ∀ y ∈ bs, y < 256) (hn : bs.length ≤ 100000)
    (hK : ∀ s' w', Hp E w' (OwnS 1 s' ((ints ((rdZ l bs many).getD [])).map vI) :: F) → K s' (erR (rdZ l bs many)) w') : Cl Try.prog [kS, kI] n_ref11_Read ⟨[.agg (ai .u8 l), .slice s.base s.len s.cap, .int .i64 many]⟩ w K :=
  rRead11_c h hl h8 hs hb hn (fun hb w' h' => by have := hK ⟨none, 0, 0⟩ w'; rw [hb] at this; exact this (h'.ownNil 1)) (fun out ho s' w' h' => by have := hK s' w'; rw [ho] at this; exact this h')
set_option maxRecDepth 20000 in
theorem encParts_law {l : List Nat} {s : Sl} {zs : List Int} {p : Int} {K : Bool → World → Prop} (h : Hp E w F) (hl : l.length = 258) (hs : Tells F (SlT 1 s (zs.map vI))) (hcap : s.len ≤ s.cap) (hK : ∀ w', Hp E w' F → K true w') :
    Cl Try.prog [kB] n_law11_PrefixEncParts ⟨[.agg (ai .u8 l), .slice s.base s.len s.cap, .int .i64 p]⟩ w K := by
  refine law11_PrefixEncParts.ok _ _ _ _ _ ?_
  unfold law11_PrefixEncParts.E
  simp only [Join_eq]
  have hsl := (h.tells hs).1
  simp only [List.length_map, Nat.mul_one] at hsl
  have hls : (ai .u8 l).size = 258 := by rw [ai_size, hl]
  obtain ⟨q, hq, hqn⟩ := clamp_nat p s.len
  rw [hq]
  refine Nw.mk h fun b5 w1 h1 => ?_
  refine IfB.mk (fun _ => wakes11_c h1 fun w2 h2 => hK w2 h2.drop) (fun h100 => ?_)
  have h100 := of_decide_eq_false h100
  refine Ld.arr h1 hls ?_
  refine spell1 (l := l) (s := s) (zs := zs) h1 hl (Tells.cons hs) (by omega) (fun s10 w2 h2 => ?_)
  have happ : zs = zs.take q ++ zs.drop q := (List.take_append_drop q zs).symm
  have hok := okZ_app l (zs.take q) (zs.drop q)
  have hea := encZ_app l (zs.take q) (zs.drop q)
  rw [← happ] at hok hea
  have tk : ∀ {s' : Sl}, (∀ w', SlT 1 s (zs.map vI) w' → SlT 1 s' (((zs.map vI).drop (0 : Int).toNat).take ((q : Int).toNat - (0 : Int).toNat)) w') → Tells F (SlT 1 s' ((zs.take q).map vI)) := fun {s'} h' => by
    have := hs.imp h'
    rwa [show (0 : Int).toNat = 0 from rfl, List.drop_zero, Nat.sub_zero, Int.toNat_natCast, ← List.map_take] at this
  have dk : ∀ {s' : Sl}, (∀ w', SlT 1 s (zs.map vI) w' → SlT 1 s' (((zs.map vI).drop (q : Int).toNat).take ((s.len : Int).toNat - (q : Int).toNat)) w') → Tells F (SlT 1 s' ((zs.drop q).map vI)) := fun {s'} h' => by
    have := hs.imp h'
    rwa [Int.toNat_natCast, Int.toNat_natCast, ← List.map_drop, List.take_of_length_le (by rw [List.length_map, List.length_drop]; omega)] at this
  have htl : (zs.take q).length ≤ 100000 := by rw [List.length_take]; omega
  have hdl : (zs.drop q).length ≤ 100000 := by rw [List.length_drop]; omega
  refine Drw.mk h2 fun w3 h3 => Ld.arr h3.p1 hls (Slc.rd (h3.tells (Tells.cons (Tells.cons hs))) (by omega) (by omega) (by omega) (by omega) (by omega) fun s15 hs15 _ => ?_)
  refine size1 (l := l) (s := s15) (zs := zs.take q) h3 hl (Tells.cons (Tells.cons (tk hs15))) htl fun w4 h4 => ?_
  refine Drw.mk h4 fun w5 h5 => Ld.arr h5.p1 hls (Slc.rd (h5.tells (Tells.cons (Tells.cons hs))) (by omega) (by omega) (by omega) (by omega) (by omega) fun s21 hs21 _ => ?_)
  refine size1 (l := l) (s := s21) (zs := zs.drop q) h5 hl (Tells.cons (Tells.cons (dk hs21))) hdl fun w6 h6 => ?_
  refine newW_c h6 fun bw w7 h7 => IfB.f rfl ?_
  refine Drw.mk h7 fun w8 h8 => Ld.arr h8.p2 hls (Slc.rd (h8.tells (Tells.cons (Tells.cons (Tells.cons hs)))) (by omega) (by omega) (by omega) (by omega) (by omega) fun s29 hs29 _ => ?_)
  refine put1 (l := l) (s := s29) (zs := zs.take q) h8 hl (Tells.cons (Tells.cons (tk hs29))) htl (by simp) fun w9 h9 => ?_
  rw [List.nil_append] at h9
  refine Drw.mk h9 fun w10 h10 => Ld.arr h10.p2 hls (Slc.rd (h10.tells (Tells.cons (Tells.cons (Tells.cons hs)))) (by omega) (by omega) (by omega) (by omega) (by omega) fun s34 hs34 _ => ?_)
  refine put1 (l := l) (s := s34) (zs := zs.drop q) h10 hl (Tells.cons (Tells.cons (dk hs34))) hdl (by have := ezZ_le l (zs.take q); rw [List.length_take] at this; omega) fun w11 h11 => ?_
  refine IfB.f (by simp) (IfB.f (by simp) ?_)
  have hk : ∀ {X : Prop}, X → IfB (erZ l (zs.take q) == 0) (IfB (!((erZ l zs == 0) == (erZ l (zs.drop q) == 0))) (K false w11) X) (IfB (!((erZ l zs == 0) == false)) (K false w11) X) := fun {X} hx => by
    unfold erZ
    rw [hok]
    cases okZ l (zs.take q) <;> cases okZ l (zs.drop q) <;> exact hx
  refine hk ?_
  refine ⟨HasF E _, HasF.mk h11.drew, ?_⟩
  have ld : ∀ {K : Array Value → Prop}, K (ai .u8 l) → LdS (.arr 258) ⟨b5, 0, none⟩ (HasF E (Wr bw (ezZ l (zs.take q) ++ ezZ l (zs.drop q)) :: OwnS 1 s10 ((pack (ezZ l zs)).map vB) :: Blk b5 (.cells (ai .u8 l) 23 (0, 0)) :: F)) K :=
    fun hk => LdS.arrBlk (fun w2 h2 => h2.mem (List.mem_cons_of_mem _ (List.mem_cons_of_mem _ (List.mem_cons_self ..)))) hls hk
  cases hz : okZ l zs with
  | false =>
    have e2 : erZ l zs = 2 := by unfold erZ; rw [hz]; rfl
    have wk : Hp E { w11 with drawn := w11.drawn + 1 } (Wr bw (ezZ l (zs.take q) ++ ezZ l (zs.drop q)) :: OwnS 1 s10 ((pack (ezZ l zs)).map vB) :: Blk b5 (.cells (ai .u8 l) 23 (0, 0)) :: F) := h11.drew
    refine IfB.t (by rw [e2]; decide) ⟨⟨?_, ?_⟩, ?_⟩
    all_goals
      refine ld (rValid9_c wk hl fun w12 h12 => ⟨HasF.mk h12, IfB.mk (fun _ => ?_) fun _ => IfB.t (by rw [e2]; decide) ?_⟩)
      · exact wakes11_c h12 fun w13 h13 => ⟨HasF.mk h13, hK w13 h13.drop.drop.drop⟩
      · exact wakes11_c h12 fun w13 h13 => ⟨HasF.mk h13, hK w13 h13.drop.drop.drop⟩
  | true =>
    have e0 : erZ l zs = 0 := by unfold erZ; rw [hz]; rfl
    have hb : okZ l (zs.take q) = true ∧ okZ l (zs.drop q) = true := by rw [hz] at hok; simpa using hok.symm
    have he : ezZ l zs = ezZ l (zs.take q) ++ ezZ l (zs.drop q) := by
      unfold ezZ; rw [hz, hb.1, hb.2]; exact hea
    have hle := ezZ_le l zs
    have hv : ksum l ≤ 32768 := by
      have := hz
      simp only [okZ, Bool.and_eq_true, decide_eq_true_eq] at this
      exact this.1
    have hln : ((ezZ l zs).length : Int) = ((ezZ l (zs.take q)).length : Int) + ((ezZ l (zs.drop q)).length : Int) := by rw [he, List.length_append]; omega
    rw [← he] at h11 ld ⊢
    have fin : ∀ {w' : World} {G : List HP}, Hp E w' (G ++ (Wr bw (ezZ l zs) :: OwnS 1 s10 ((pack (ezZ l zs)).map vB) :: Blk b5 (.cells (ai .u8 l) 23 (0, 0)) :: F)) → Cl Try.prog [kB] n_law11_wakes ⟨[]⟩ w' (fun r w'' => HasF E (Wr bw (ezZ l zs) :: OwnS 1 s10 ((pack (ezZ l zs)).map vB) :: Blk b5 (.cells (ai .u8 l) 23 (0, 0)) :: F) w'' ∧ K r w'') :=
      fun h' => wakes11_c h' fun w'' h'' => ⟨⟨_, h''⟩, hK _ h''.dropL.drop.drop.drop⟩
    refine IfB.f (by rw [e0]; decide) (IfB.t (by rw [i64_id (by omega), hln]; simp) ?_)
    refine lenW_c (h11.drew (n := w11.drawn + 1)) fun w12 h12 => ⟨HasF.mk h12, IfB.t (by simp) ⟨?_, ?_⟩⟩
    · refine bytesW_c h12 fun s65 w13 h13 => ⟨HasF.mk1 h13, ?_, ?_⟩
      · refine run_toStr (s := s65) (b := pack (ezZ l zs)) (e := 5) (by kernel_rfl) (by kernel_rfl) (by kernel_rfl) (h13.tells Tells.own) ⟨HasF.mk1 h13, ?_⟩
        refine run_toStr (s := s10) (b := pack (ezZ l zs)) (e := 5) (by kernel_rfl) (by kernel_rfl) (by kernel_rfl) (h13.tells (Tells.cons (Tells.cons Tells.own))) ⟨HasF.mk1 h13, IfB.t (by simp) ?_⟩
        exact ld (rValid9_c h13 hl fun w14 h14 => ⟨HasF.mk1 h14, IfB.t (decide_eq_true hv) (fin (G := [_]) h14)⟩)
      · refine run_toStr (s := s10) (b := pack (ezZ l zs)) (e := 5) (by kernel_rfl) (by kernel_rfl) (by kernel_rfl) (h13.tells (Tells.cons (Tells.cons Tells.own))) ⟨HasF.mk1 h13, ?_⟩
        refine run_toStr (s := s65) (b := pack (ezZ l zs)) (e := 5) (by kernel_rfl) (by kernel_rfl) (by kernel_rfl) (h13.tells Tells.own) ⟨HasF.mk1 h13, IfB.t (by simp) ?_⟩
        exact ld (rValid9_c h13 hl fun w14 h14 => ⟨HasF.mk1 h14, IfB.t (decide_eq_true hv) (fin (G := [_]) h14)⟩)
    · refine run_toStr (s := s10) (b := pack (ezZ l zs)) (e := 5) (by kernel_rfl) (by kernel_rfl) (by kernel_rfl) (h12.tells (Tells.cons Tells.own)) ⟨HasF.mk h12, ?_⟩
      refine bytesW_c h12 fun s65 w13 h13 => ⟨HasF.mk1 h13, ?_⟩
      refine run_toStr (s := s65) (b := pack (ezZ l zs)) (e := 5) (by kernel_rfl) (by kernel_rfl) (by kernel_rfl) (h13.tells Tells.own) ⟨HasF.mk1 h13, IfB.t (by simp) ?_⟩
      exact ld (rValid9_c h13 hl fun w14 h14 => ⟨HasF.mk1 h14, IfB.t (decide_eq_true hv) (fin (G := [_]) h14)⟩)
end
end Go.Proofs.Ytajpnkioigcejaa
