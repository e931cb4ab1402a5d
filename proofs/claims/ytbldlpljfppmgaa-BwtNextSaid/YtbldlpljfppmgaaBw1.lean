/-
  Package bwt: contracts of Less, Next, Back, Valid. Conditions: as each theorem states.
-/
import Derived.Test.YtbldlpljfppmgaaBwC
import Derived.Test.YtbldlpljfppmgaaMk
import Derived.Test.YtbldlpljfppmgaaEl
import Derived.Test.YtbldlpljfppmgaaFbwt
namespace Go.Vc
open Go
/-- a byte is appended to a slice of the code's own -/
theorem app_b {P : Program} {t ty e e2 : TypeId} {E w : World} {F : List HP} {s : Sl} {bs : List Nat} {x : Nat} {cs : Array Value} {K : Sl → World → Prop} (he : ElemT P t e 1 1) (hcs : cs = ⟨[vB x]⟩) (hh : Hp E w (OwnS 1 s (bs.map vB) :: F)) (hb : bs.length ≤ big)
    (h : ∀ s' w', Hp E w' (OwnS 1 s' ((bs ++ [x]).map vB) :: F) → s'.len = bs.length + 1 → K s' w') :
    Nw e2 cs w fun b w1 => Run P (Builtin.append_ #[t, t] ty ⟨[.slice s.base s.len s.cap, .slice (some ⟨b, 0, none⟩) 1 1]⟩) kS w1 K := by
  have hl := hh.ownLen
  rw [List.length_map, Nat.mul_one] at hl
  rw [big_eq] at hb
  refine Nw.mk hh fun b w1 h1 => run_append (ys := [vB x]) (n := 1) he (by decide) (.inl ⟨e, he.und⟩) h1.p1 (.inl ⟨some ⟨b, 0, none⟩, 1, 1, rfl, rfl, h1.tells (Tells.blk (by rw [hcs]) rfl)⟩) rfl (fun y hy => by
    rw [List.mem_singleton] at hy; subst hy; rfl) (by omega) (by omega) fun s' w2 h2 hs' => h s' w2 ?_ (by omega)
  rw [List.map_append]
  exact h2.p1.drop
end Go.Vc
namespace Go.Proofs.Ytbldlpljfppmgaa
open Go Go.Vc Go.Bw
theorem bcmp_calls {x y : Value} {r : Int} {w : World} (h : (Extern.BytealgCompare.compare #[x, y]).run Try.prog w = .ok (.int .i64 r) w) : Calls Try.prog n_bytes_Compare #[x, y] w fun e w' => e = .returned (.int .i64 r) ∧ w' = w := by
  have hx : (callFunc n_internal_bytealg_Compare #[x, y]).run Try.prog w = .ok (.value (.int .i64 r)) w := by
    rw [run_callFunc_extern Try.func56 (by kernel_rfl) (by kernel_rfl) (by kernel_rfl) (e := Extern.BytealgCompare.compare) (by kernel_rfl), h]; rfl
  go_enter Try.func51, Try.ntmps51
  go_wp2
  go_ret
  exact ⟨rfl, rfl⟩
theorem ty_bs : ElemT Try.prog 42 5 1 1 := .of (by kernel_rfl) (by kernel_rfl)
theorem infoI64 : ∃ i, Try.prog.info? 3 = some i ∧ i.zero = some (.int .i64 0) ∧ i.size = 1 ∧ i.bytes = 8 := by
  have h : (Try.prog.info? 3).map (fun i => (i.zero, i.size, i.bytes)) = some (some (.int .i64 0), 1, 8) := by kernel_rfl
  obtain ⟨i, h1, h2⟩ := Option.map_eq_some_iff.1 h
  simp only [Prod.mk.injEq] at h2
  exact ⟨i, h1, h2⟩
theorem infoU8 : ∃ i, Try.prog.info? 5 = some i ∧ i.zero = some (.int .u8 0) ∧ i.size = 1 ∧ i.bytes = 1 := by
  have h : (Try.prog.info? 5).map (fun i => (i.zero, i.size, i.bytes)) = some (some (.int .u8 0), 1, 1) := by kernel_rfl
  obtain ⟨i, h1, h2⟩ := Option.map_eq_some_iff.1 h
  simp only [Prod.mk.injEq] at h2
  exact ⟨i, h1, h2⟩
theorem rep_vI {n : Nat} : List.replicate n (Value.int .i64 0) = (List.replicate n (0 : Int)).map vI := by simp [vI]
theorem rep_get (n i : Nat) : (List.replicate n (0 : Int)).getD i 0 = 0 := by
  simp only [List.getD, List.getElem?_replicate]
  split <;> rfl
theorem rep_vB {n : Nat} : List.replicate n (Value.int .u8 0) = (List.replicate n (0 : Nat)).map vB := by simp [vB]
section
variable {E w : World} {F : List HP}
theorem bytesOf_run {s : Sl} {b : List Nat} (hs : SlT 1 s (b.map vB) w) : (Extern.Bytes.bytesOf (.slice s.base s.len s.cap)).run Try.prog w = .ok (strOf b) w := by
  have hl := hs.1
  simp only [List.length_map, Nat.mul_one] at hl
  cases hb : s.base with
  | none =>
    have : b = [] := by
      cases b with
      | nil => rfl
      | cons x b =>
        obtain ⟨p, hp, _⟩ := hs.2 0 (by simp)
        rw [hb] at hp; cases hp
    subst this
    rfl
  | some p =>
    have := Lib.run_loadBytesX (P := Try.prog) w (b.map fun (x : Nat) => (x : Int)) p .empty (fun j x hx => by
      rw [List.getElem?_map] at hx
      cases hj : b[j]? with
      | none => rw [hj] at hx; cases hx
      | some y =>
        rw [hj] at hx
        obtain rfl := Option.some.inj hx
        obtain ⟨hjl, hje⟩ := List.getElem?_eq_some_iff.1 hj
        obtain ⟨q, hq, hc⟩ := hs.2 j (by simpa using hjl)
        rw [hb] at hq
        obtain rfl := Option.some.inj hq
        rw [hc]
        simp [vB, hje])
    rw [List.length_map, hl] at this
    show (Extern.Bytes.loadBytes p s.len .empty).run Try.prog w = _
    rw [this]
    congr 1
    unfold strOf strOfNums Lib.bytesOf
    simp [ByteArray.empty, ByteArray.emptyWithCapacity]
    try rfl
theorem bcmp_c {s s2 : Sl} {a b : List Nat} {K : Int → World → Prop} (ha : SlT 1 s (a.map vB) w) (hb : SlT 1 s2 (b.map vB) w) (hla : ∀ x ∈ a, x < 256) (hlb : ∀ x ∈ b, x < 256) (hK : ∀ r, (r < 0 ↔ lx a b = true) → K r w) :
    Cl Try.prog [kI] n_bytes_Compare ⟨[.slice s.base s.len s.cap, .slice s2.base s2.len s2.cap]⟩ w K := by
  have hr : (Extern.BytealgCompare.compare #[.slice s.base s.len s.cap, .slice s2.base s2.len s2.cap]).run Try.prog w = .ok (.int .i64 (Extern.BytealgCompare.cmp (strOf a) (strOf b))) w := by
    show Sem.run _ (do
      let x ← Extern.Bytes.bytesOf (.slice s.base s.len s.cap)
      let y ← Extern.Bytes.bytesOf (.slice s2.base s2.len s2.cap)
      pure (goInt (Extern.BytealgCompare.cmp x y))) w = _
    simp only [Sem.run_bind, bytesOf_run ha, bytesOf_run hb, Result.andThen_ok, Sem.run_pure, goInt]
  refine Calls.mono (bcmp_calls hr) fun e w' he => ?_
  obtain ⟨rfl, rfl⟩ := he
  refine hK _ ?_
  rw [Lib.cmp_eq, strOf_data, strOf_data]
  exact cmp_less hla hlb
def lessI (t : List Nat) (i k : Int) : Bool := decide (0 ≤ i ∧ i ≤ t.length ∧ 0 ≤ k ∧ k ≤ t.length) && sl t i.toNat k.toNat
theorem bwLess_c {t : List Nat} {s : Sl} {i k : Int} {K : Bool → World → Prop} (h : Hp E w F) (hs : Tells F (SlT 1 s (t.map vB))) (hb : ∀ x ∈ t, x < 256) (hcap : s.len ≤ s.cap) (hK : ∀ w', Hp E w' F → K (lessI t i k) w') :
    Cl Try.prog [kB] n_bwt_Less ⟨[.slice s.base s.len s.cap, .int .i64 i, .int .i64 k]⟩ w K := by
  refine bwt_Less.ok _ _ _ _ _ ?_
  unfold bwt_Less.E
  have hl := (h.tells hs).1
  simp only [List.length_map, Nat.mul_one] at hl
  have no : ¬ (0 ≤ i ∧ i ≤ t.length ∧ 0 ≤ k ∧ k ≤ t.length) → K false w := fun hn => by
    have := hK w h
    unfold lessI at this
    rwa [decide_eq_false hn, Bool.false_and] at this
  refine IfB.mk (fun h0 => no ?_) (fun h0 => IfB.mk (fun h1 => no ?_) (fun h1 => ?_))
  · have h0 := of_decide_eq_true h0
    split at h0 <;> omega
  · have h1 := of_decide_eq_true h1
    split at h1 <;> omega
  · have h0 := of_decide_eq_false h0
    have h1 := of_decide_eq_false h1
    have hin : 0 ≤ i ∧ i ≤ t.length ∧ 0 ≤ k ∧ k ≤ t.length := by
      split at h0 <;> split at h1 <;> omega
    refine Drw.mk h fun w1 h2 => ?_
    have dk : ∀ {j : Int} {s' : Sl}, 0 ≤ j → j ≤ t.length → (∀ w', SlT 1 s (t.map vB) w' → SlT 1 s' (((t.map vB).drop j.toNat).take ((s.len : Int).toNat - j.toNat)) w') → SlT 1 s' ((t.drop j.toNat).map vB) w1 := fun {j s'} h0 h1 h' => by
      have := h' w1 (h2.tells hs)
      rwa [Int.toNat_natCast, ← List.map_drop, List.take_of_length_le (by rw [List.length_map, List.length_drop]; omega)] at this
    refine Slc.rd (h2.tells hs) (by omega) (by omega) (by omega) (by omega) (by omega) fun s5 h5 _ => ?_
    refine Slc.rd (h2.tells hs) (by omega) (by omega) (by omega) (by omega) (by omega) fun s6 h6 _ => ?_
    refine bcmp_c (dk (by omega) (by omega) h5) (dk (by omega) (by omega) h6) (fun x hx => hb x (List.mem_of_mem_drop hx)) (fun x hx => hb x (List.mem_of_mem_drop hx)) fun r hr => ?_
    have := hK w1 h2
    unfold lessI at this
    rw [decide_eq_true hin, Bool.true_and] at this
    have e : decide (r < 0) = sl t i.toNat k.toNat := by
      rw [Bool.eq_iff_iff, decide_eq_true_iff]; exact hr
    rw [e]; exact this
def inRow (m : Nat) (index row : Int) : Prop := 0 ≤ index ∧ index ≤ m ∧ 0 ≤ row ∧ row ≤ m ∧ row ≠ index
theorem place_c {m : Nat} {s : Sl} {index row : Int} {K : Int → Bool → World → Prop} (hm : s.len = m) (hbig : m ≤ big) (h1 : inRow m index row → K (atB index.toNat row.toNat : Int) true w) (h2 : ¬ inRow m index row → K 0 false w) :
    Cl Try.prog [kI, kB] n_bwt_place ⟨[.slice s.base s.len s.cap, .int .i64 index, .int .i64 row]⟩ w K := by
  refine bwt_place.ok _ _ _ _ _ ?_
  unfold bwt_place.E
  subst hm
  rw [big_eq] at hbig
  unfold inRow at h1 h2
  refine IfB.mk (fun g => h2 (by have := of_decide_eq_true g; omega)) (fun g1 => IfB.mk (fun g => h2 (by have := of_decide_eq_true g; omega)) (fun g2 => IfB.mk (fun g => h2 (by have := of_decide_eq_true g; omega)) (fun g3 => IfB.mk (fun g => h2 (by have := of_decide_eq_true g; omega)) (fun g4 => IfB.mk (fun g => h2 (by have := beq_iff_eq.1 g; omega)) (fun g5 => ?_)))))
  have g1 := of_decide_eq_false g1
  have g2 := of_decide_eq_false g2
  have g3 := of_decide_eq_false g3
  have g4 := of_decide_eq_false g4
  have g5 := beq_eq_false_iff_ne.1 g5
  have hk := h1 (by omega)
  refine IfB.mk (fun g => ?_) (fun g => ?_)
  · have g := of_decide_eq_true g
    have e : (atB index.toNat row.toNat : Int) = row - 1 := by unfold atB; rw [if_pos (by omega)]; omega
    rw [i64_id (by omega), ← e]; exact hk
  · have g := of_decide_eq_false g
    have e : (atB index.toNat row.toNat : Int) = row := by unfold atB; rw [if_neg (by omega)]; omega
    rw [← e]; rw [e] at hk ⊢; exact hk
theorem inRow_at {m : Nat} {index row : Int} (h : inRow m index row) : atB index.toNat row.toNat < m := by
  obtain ⟨h1, h2, h3, h4, h5⟩ := h
  unfold atB; split <;> omega
theorem bwNext_c {last : List Nat} {s : Sl} {index row : Int} {K : Int → Int → Bool → World → Prop} (h : Hp E w F) (hs : Tells F (SlT 1 s (last.map vB))) (hbig : last.length ≤ big)
    (hK1 : inRow last.length index row → ∀ w', Hp E w' F → K (nx last (atB index.toNat row.toNat) : Int) (last.getD (atB index.toNat row.toNat) 0 : Int) true w') (hK2 : ¬ inRow last.length index row → ∀ w', Hp E w' F → K 0 0 false w') :
    Cl Try.prog [kI, kInt .u8, kB] n_bwt_Next ⟨[.slice s.base s.len s.cap, .int .i64 index, .int .i64 row]⟩ w K := by
  refine bwt_Next.ok _ _ _ _ _ ?_
  unfold bwt_Next.E
  have hl := (h.tells hs).1
  simp only [List.length_map, Nat.mul_one] at hl
  refine place_c hl.symm hbig (fun hin => ?_) (fun hin => IfB.t rfl (hK2 hin w h))
  have hat := inRow_at hin
  obtain ⟨a, ha⟩ : ∃ a, a = atB index.toNat row.toNat := ⟨_, rfl⟩
  have hK := hK1 hin
  rw [← ha] at hat hK ⊢
  rw [big_eq] at hbig
  refine IfB.f rfl (Idx.nB (h.tells hs) rfl hat ?_)
  refine ⟨fun n i w' => ∃ k : Nat, i = (k : Int) ∧ k ≤ last.length ∧ n = ((1 + plN last a k : Nat) : Int) ∧ Hp E w' F, fun _ i _ => last.length - i.toNat, ⟨0, rfl, by omega, rfl, h⟩, ?_⟩
  rintro n i w1 ⟨k, rfl, hk, rfl, h1⟩
  refine IfB.mk (fun hlt => ?_) (fun hge => ?_)
  · have hlt : k < last.length := by have := of_decide_eq_true hlt; omega
    have hs2 := plN_succ last a k
    have hle := plN_le last a k
    have yes : pl last k a = true → (∃ k' : Nat, i64 ((k : Int) + 1) = (k' : Int) ∧ k' ≤ last.length ∧ i64 (((1 + plN last a k : Nat) : Int) + 1) = ((1 + plN last a k' : Nat) : Int) ∧ Hp E w1 F) ∧ last.length - (i64 ((k : Int) + 1)).toNat < last.length - (k : Int).toNat := fun hp =>
      ⟨⟨k + 1, by rw [i64_id (by omega)]; omega, by omega, by rw [i64_id (by omega), hs2, if_pos hp]; omega, h1⟩, by rw [i64_id (by omega)]; omega⟩
    have no : pl last k a = false → (∃ k' : Nat, i64 ((k : Int) + 1) = (k' : Int) ∧ k' ≤ last.length ∧ ((1 + plN last a k : Nat) : Int) = ((1 + plN last a k' : Nat) : Int) ∧ Hp E w1 F) ∧ last.length - (i64 ((k : Int) + 1)).toNat < last.length - (k : Int).toNat := fun hp =>
      ⟨⟨k + 1, by rw [i64_id (by omega)]; omega, by omega, by rw [hs2, hp]; simp, h1⟩, by rw [i64_id (by omega)]; omega⟩
    refine Idx.nB (h1.tells hs) rfl hlt (IfB.mk (fun hc => yes (pl_iff.2 (.inl (by have := of_decide_eq_true hc; omega)))) (fun hc => IfB.mk (fun he => IfB.mk (fun hd => yes (pl_iff.2 (.inr ⟨by have := beq_iff_eq.1 he; omega, by have := of_decide_eq_true hd; omega⟩))) (fun hd => no (pl_f.2 ?_))) (fun he => no (pl_f.2 ?_))))
    · have hc := of_decide_eq_false hc
      have hd := of_decide_eq_false hd
      omega
    · have hc := of_decide_eq_false hc
      have he := beq_eq_false_iff_ne.1 he
      omega
  · have hge : k = last.length := by have := of_decide_eq_false hge; omega
    subst hge
    exact hK w1 h1
/-- the rows after all rows -/
def rowsB (last : List Nat) (index : Nat) : List Int := (List.range (last.length + 1)).map fun r => if r = index then 0 else (nx last (atB index r) : Int)
theorem rowsB_len (last : List Nat) (index : Nat) : (rowsB last index).length = last.length + 1 := by simp [rowsB]
theorem rowsB_get {last : List Nat} {index r : Nat} (hr : r ≤ last.length) (hne : r ≠ index) : (rowsB last index).getD r 0 = (nx last (atB index r) : Int) := by
  unfold rowsB
  simp [List.getD, show r < last.length + 1 by omega, hne]
set_option maxRecDepth 20000 in
theorem behind_c {last : List Nat} {s : Sl} {index : Nat} {K : Sl → World → Prop} (h : Hp E w F) (hs : Tells F (SlT 1 s (last.map vB))) (hb : ∀ x ∈ last, x < 256) (hn : last.length ≤ 900000) (hi : index ≤ last.length)
    (hK : ∀ s' w', Hp E w' (OwnS 1 s' ((rowsB last index).map vI) :: F) → K s' w') : Cl Try.prog [kS] n_bwt_behind ⟨[.slice s.base s.len s.cap, .int .i64 (index : Int)]⟩ w K := by
  refine bwt_behind.ok _ _ _ _ ?_
  unfold bwt_behind.E
  rw [aT_zero]
  have hl := (h.tells hs).1
  simp only [List.length_map, Nat.mul_one] at hl
  have hg : ∀ k, k < last.length → last.getD k 0 < 256 := fun k hk => by
    rw [List.getD, List.getElem?_eq_getElem hk]
    exact hb _ (List.getElem_mem hk)
  have hcl : ∀ (k c : Nat), (last.take k).count c ≤ last.length := fun k c => by
    refine Nat.le_trans List.count_le_length ?_
    rw [List.length_take]; omega
  have hcc : ∀ c : Nat, cntL last c ≤ last.length := fun c => List.countP_le_length
  refine Nw.mk h fun b4 w1 h1 => ?_
  refine ⟨fun i w' => ∃ (k : Nat) (u : List Int), i = (k : Int) ∧ k ≤ last.length ∧ u.length = 257 ∧ (u.getD 0 0 = 0 ∧ ∀ c, c < 256 → u.getD (c + 1) 0 = ((last.take k).count c : Int)) ∧ Hp E w' (Blk b4 (.cells (aT u) 72 (0, 0)) :: F), fun i _ => last.length - i.toNat,
    ⟨0, _, rfl, by omega, List.length_replicate, ⟨rep_get .., fun c hc => by rw [rep_get]; simp⟩, h1⟩, ?_⟩
  rintro i w2 ⟨k, u, rfl, hk, hul, hu, h2⟩
  refine IfB.mk (fun hlt => ?_) (fun hge => ?_)
  · have hlt : k < last.length := by have := of_decide_eq_true hlt; omega
    have hx := hg k hlt
    have hq := hu.2 (last.getD k 0) hx
    have hcb := hcl k (last.getD k 0)
    refine Idx.nB (h2.tells (Tells.cons hs)) rfl hlt ?_
    rw [i64_id (x := (last.getD k 0 : Int)) (by omega), i64_id (x := (last.getD k 0 : Int) + 1) (by omega)]
    refine IdxP.aT (j := last.getD k 0 + 1) h2 (by omega) hul (by omega) (IdxP.aTset (j := last.getD k 0 + 1) h2 (by omega) hul (by omega) fun w3 h3 => ?_)
    rw [i64_id (x := (k : Int) + 1) (by omega)]
    refine ⟨⟨k + 1, _, by omega, by omega, by rw [List.length_set]; exact hul, ⟨?_, fun c hc => ?_⟩, h3⟩, by dsimp only; omega⟩
    · rw [getD_set (by omega), if_neg (by omega)]; exact hu.1
    · rw [getD_set (by omega), List.take_add_one, List.getElem?_eq_getElem hlt, List.count_append]
      have e : last.getD k 0 = last[k] := by simp [List.getD, hlt]
      by_cases ec : c = last.getD k 0
      · subst ec
        rw [if_pos rfl, hq, i64_id (by omega), e]; simp
      · rw [if_neg (by omega), hu.2 c hc]
        have : List.count c (some last[k]).toList = 0 := by
          rw [List.count_eq_zero]
          simp only [Option.toList_some, List.mem_singleton]
          rw [← e]; exact ec
        rw [this]; simp
  have hge : k = last.length := by have := of_decide_eq_false hge; omega
  subst hge
  rw [List.take_length] at hu
  refine ⟨fun i w' => ∃ (k : Nat) (u : List Int), i = (k : Int) ∧ k ≤ 256 ∧ u.length = 257 ∧ (∀ c, c ≤ k → u.getD c 0 = (cntL last c : Int)) ∧ (∀ c, k < c + 1 → c < 256 → u.getD (c + 1) 0 = (last.count c : Int)) ∧ Hp E w' (Blk b4 (.cells (aT u) 72 (0, 0)) :: F), fun i _ => 256 - i.toNat,
    ⟨0, u, rfl, by omega, hul, fun c hc => by obtain rfl : c = 0 := by omega
                                              rw [hu.1, cntL_zero]; rfl, fun c _ hc => hu.2 c hc, h2⟩, ?_⟩
  rintro i w3 ⟨k, v, rfl, hk, hvl, hv1, hv2, h3⟩
  refine IfB.mk (fun hlt => ?_) (fun hge => ?_)
  · have hlt : k < 256 := by have := of_decide_eq_true hlt; omega
    refine Drw.mk h3 fun w4 h4 => ?_
    rw [i64_id (x := (k : Int) + 1) (by omega)]
    have e1 := hv2 k (by omega) hlt
    have e2 := hv1 k (by omega)
    have e3 := cntL_succ k last
    have e4 := hcc (k + 1)
    refine IdxP.aT (j := k + 1) h4 (by omega) hvl (by omega) (IdxP.aT (j := k) h4 rfl hvl (by omega) (IdxP.aTset (j := k + 1) h4 (by omega) hvl (by omega) fun w5 h5 => ?_))
    refine ⟨⟨k + 1, _, by omega, by omega, by rw [List.length_set]; exact hvl, fun c hc => ?_, fun c hc1 hc2 => ?_, h5⟩, by dsimp only; omega⟩
    · rw [getD_set (by omega)]
      by_cases ec : c = k + 1
      · subst ec
        rw [if_pos rfl, e1, e2, i64_id (by omega), e3]; omega
      · rw [if_neg ec]; exact hv1 c (by omega)
    · rw [getD_set (by omega), if_neg (by omega)]
      exact hv2 c (by omega) hc2
  have hge : k = 256 := by have := of_decide_eq_false hge; omega
  subst hge
  rw [show i64 ((s.len : Int) + 1) = ((last.length + 1 : Nat) : Int) by rw [i64_id (by omega)]; omega]
  refine run_mk1 (by kernel_rfl) infoI64 rfl (by omega) (by decide) h3 fun s27 w4 hs27 h4 => ?_
  rw [rep_vI] at h4
  refine ⟨fun i w' => ∃ (k : Nat) (v out : List Int), i = (k : Int) ∧ k ≤ last.length + 1 ∧ v.length = 257 ∧ (∀ c, c < 256 → v.getD c 0 = (cntL last c : Int) + ((last.take (atB index k)).count c : Int)) ∧ out.length = last.length + 1 ∧
      (∀ r, r < k → out.getD r 0 = (rowsB last index).getD r 0) ∧ (∀ r, k ≤ r → out.getD r 0 = 0) ∧ Hp E w' (OwnS 1 s27 (out.map vI) :: Blk b4 (.cells (aT v) 72 (0, 0)) :: F), fun i _ => last.length + 1 - i.toNat,
    ⟨0, v, _, rfl, by omega, hvl, fun c hc => by rw [hv1 c (by omega)]; simp [atB], List.length_replicate, fun r hr => by omega, fun r _ => by simp only [List.getD, List.getElem?_replicate]; split <;> rfl, h4⟩, ?_⟩
  rintro i w5 ⟨k, v, out, rfl, hk, hvl, hv, hol, ho1, ho2, h5⟩
  refine IfB.mk (fun hlt => ?_) (fun hge => ?_)
  · have hlt : k < last.length + 1 := by have := of_decide_eq_true hlt; omega
    refine place_c hl.symm (by rw [big_eq]; omega) (fun hin => IfB.t rfl ?_) (fun hin => IfB.f rfl ?_)
    · have hat := inRow_at hin
      have hne : k ≠ index := by have := hin.2.2.2.2; omega
      rw [Int.toNat_natCast, Int.toNat_natCast] at hat ⊢
      have hx := hg _ hat
      have hvx := hv _ hx
      have hcn := nx_cnt hat
      have hnl := nx_le hat
      refine Idx.nB (h5.tells (Tells.cons (Tells.cons hs))) rfl hat ?_
      refine IdxP.aT (j := last.getD (atB index k) 0) h5.p1 rfl hvl (by omega) (IdxP.aTset (j := last.getD (atB index k) 0) h5.p1 rfl hvl (by omega) fun w6 h6 => ?_)
      have hset : i64 (v.getD (last.getD (atB index k) 0) 0 + 1) = (nx last (atB index k) : Int) := by rw [hvx, i64_id (by omega)]; omega
      rw [hset] at h6
      refine IdxP.aT (j := last.getD (atB index k) 0) h6 rfl (by rw [List.length_set]; exact hvl) (by omega) ?_
      rw [getD_set (by omega), if_pos rfl]
      refine Idx.setI h6.p1 rfl (by omega) fun w7 h7 => ?_
      rw [i64_id (x := (k : Int) + 1) (by omega)]
      refine ⟨⟨k + 1, _, _, by omega, by omega, by rw [List.length_set]; exact hvl, fun c hc => ?_, by rw [List.length_set]; exact hol, fun r hr => ?_, fun r hr => ?_, h7⟩, by dsimp only; omega⟩
      · rw [getD_set (by omega), atB_succ hne, List.take_add_one, List.getElem?_eq_getElem hat, List.count_append]
        have e : last.getD (atB index k) 0 = last[atB index k] := by simp [List.getD, hat]
        by_cases ec : c = last.getD (atB index k) 0
        · subst ec
          rw [if_pos rfl, hcn, e]; simp; omega
        · rw [if_neg ec, hv c hc]
          have : List.count c (some last[atB index k]).toList = 0 := by
            rw [List.count_eq_zero]
            simp only [Option.toList_some, List.mem_singleton]
            rw [← e]; exact ec
          rw [this]; simp
      · rw [getD_set (by omega)]
        by_cases er : r = k
        · subst er
          rw [if_pos rfl, rowsB_get (by omega) hne]
        · rw [if_neg er]; exact ho1 r (by omega)
      · rw [getD_set (by omega), if_neg (by omega)]; exact ho2 r (by omega)
    · have hke : k = index := by
        rcases Nat.lt_trichotomy k index with h | h | h
        · exact absurd ⟨by omega, by omega, by omega, by omega, by omega⟩ hin
        · exact h
        · exact absurd ⟨by omega, by omega, by omega, by omega, by omega⟩ hin
      rw [i64_id (x := (k : Int) + 1) (by omega)]
      refine ⟨⟨k + 1, v, out, by omega, by omega, hvl, fun c hc => ?_, hol, fun r hr => ?_, fun r hr => ho2 r (by omega), h5⟩, by dsimp only; omega⟩
      · rw [hv c hc, hke, atB_same]
      · by_cases er : r = k
        · subst er
          rw [ho2 r (Nat.le_refl _)]
          unfold rowsB
          rw [List.getD, List.getElem?_map, List.getElem?_range (by omega)]
          simp [hke]
        · exact ho1 r (by omega)
  · have hge : k = last.length + 1 := by
      have := of_decide_eq_false hge; omega
    subst hge
    have : out = rowsB last index := by
      apply List.ext_getElem (by rw [hol, rowsB_len])
      intro r h1 h2
      have := ho1 r (by omega)
      simpa [List.getD, h1, h2] using this
    rw [this] at h5
    exact hK s27 w5 h5.p1.drop
end
end Go.Proofs.Ytbldlpljfppmgaa
