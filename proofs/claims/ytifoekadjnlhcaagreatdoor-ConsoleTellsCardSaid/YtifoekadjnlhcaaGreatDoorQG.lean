/- console: light responses. -/
import Derived.Test.YtifoekadjnlhcaaGreatDoorQD
import Derived.Test.YtifoekadjnlhcaaGreatDoorQA
import Derived.Test.YtifoekadjnlhcaaGreatDoorMV
namespace Go.Proofs.YtifoekadjnlhcaaGreatDoor
open Go.ChangeShapes Go.WideShapes Go.ChangeAt Go.RowKit
set_option linter.unusedVariables false
set_option linter.unusedSimpArgs false
theorem take_oks {α : Type} {p : α → Prop} {l : List α} {k : Nat} {x : α} (h : ∀ y ∈ l.take k, p y) (hx : l[k]? = some x) (hp : p x) : ∀ y ∈ l.take (k + 1), p y := by
  obtain ⟨hl, rfl⟩ := List.getElem?_eq_some_iff.1 hx
  rw [List.take_succ_eq_append_getElem hl]
  intro y hy
  rcases List.mem_append.1 hy with hy | hy
  · exact h y hy
  · simp at hy; subst hy; exact hp
set_option maxRecDepth 100000 in
set_option maxHeartbeats 1600000 in
theorem lightr_kv (delta time : Int) (keyed dead : Bool) (key value : List UInt8) (w : World) (hk : key.length ≤ maxLen) (hv : value.length ≤ maxLen) : Calls Tryz.prog 80 #[.agg #[.int .i64 delta, .int .i64 time, .bool keyed, .string (str key), .bool dead, .string (str value)]] w fun x w' => LightRet w w' x (key.length ≤ 200 ∧ value.length ≤ 700) := by
  have h1 := str_size key
  have h2 := str_size value
  unfold maxLen at hk hv
  refine calls_wd ?_
  go_enter Tryz.func80, Tryz.ntmps80
  by_cases hkl : (key.length : Int) ≤ 200
  · by_cases hvl : (value.length : Int) ≤ 700
    · go_wp2
      all_goals (go_ret; exact ⟨_, rfl, more_wd _ _ _, fun _ => ⟨by omega, by omega⟩⟩)
    · go_wp2
      all_goals (go_ret; exact ⟨_, rfl, more_wd _ _ _, fun h => by simp_all⟩)
  · go_wp2
    all_goals (go_ret; exact ⟨_, rfl, more_wd _ _ _, fun h => by simp_all⟩)
def Small (b : Bat) : Prop := b.recs.length ≤ 40 ∧ ∀ r ∈ b.recs, r.key.length ≤ 200 ∧ r.value.length ≤ 700
set_option maxRecDepth 100000 in
set_option maxHeartbeats 1600000 in
theorem light_small (b : Bat) (a : Option Addr) (cap : Nat) (w : World) (hr : RecsAt w a b.recs) (hm : b.recs.length ≤ maxLen) (hkv : ∀ r ∈ b.recs, r.key.length ≤ maxLen ∧ r.value.length ≤ maxLen) :
    Calls Tryz.prog 56 #[.agg #[.int .i64 b.base, .int .i64 b.count, .int .i64 b.producer, .int .i64 b.epoch, .int .i64 b.seq, .slice a b.recs.length cap]] w fun x w' => LightRet w w' x (Small b) := by
  have HR := Lib.hid hr
  have HK := Lib.hid hkv
  obtain ⟨base, count, producer, epoch, seq, recs⟩ := b
  dsimp only at HR HK hm ⊢
  unfold maxLen at hm
  clear hr hkv
  by_cases h40 : 40 < recs.length
  · refine calls_wd ?_
    go_enter Tryz.func56, Tryz.ntmps56
    go_wp2
    go_ret
    exact ⟨false, rfl, more_wd _ _ _, fun h => by cases h⟩
  · have h41 : (recs.length : Int) ≤ 40 := by omega
    refine calls_wd ?_
    go_enter Tryz.func56, Tryz.ntmps56
    go_wp2
    go_loopw [3] (fun i wr => ∃ (k : Nat) (m : Ext), k ≤ recs.length ∧ i = .int .i64 k ∧ wr = wd w [m.e, bbox base count producer epoch seq a recs.length cap] m.n ∧ Hid (∀ y ∈ recs.take k, y.key.length ≤ 200 ∧ y.value.length ≤ 700)) (fun i _ => recs.length - (intOf i).toNat)
    case atStart => exact ⟨0, ⟨#[], _⟩, Nat.zero_le _, rfl, by rw [wd_empty], Lib.hid (by simp)⟩
    case round =>
      obtain ⟨k, m, hk, rfl, rfl, HTK⟩ := hrel
      by_cases hlt : k < recs.length
      · obtain ⟨x, hx⟩ : ∃ x, recs[k]? = some x := ⟨_, List.getElem?_eq_getElem hlt⟩
        obtain ⟨bb, off, rfl, hb, c0, c1, c2, c3, c4, c5⟩ := recs_at HR.out k x hx
        obtain ⟨hkx, hvx⟩ := HK.out x (List.mem_of_getElem? hx)
        have HSTEP := Lib.hid (fun h => take_oks (p := fun y : Rec => y.key.length ≤ 200 ∧ y.value.length ≤ 700) HTK.out hx h)
        have HL := Lib.hid (fun W => lightr_kv x.delta x.time x.keyed x.dead x.key x.value W hkx hvx)
        obtain ⟨d, t, ky, key, dd, val⟩ := x
        dsimp only at c0 c1 c2 c3 c4 c5 HSTEP HL
        clear hx hkx hvx
        go_wp2_with (first | (go_at_call 80; ((with_reducible refine (HL.out _).mono ?_); rintro e w2 hbr; obtain ⟨bl, rfl, ⟨x9, n9, rfl⟩, hbl⟩ := hbr.out; have HBL := Lib.hid hbl; clear hbr hbl; cases bl)))
        · go_ret
          exact ⟨_, rfl, more_wd _ _ _, fun h => by cases h⟩
        · go_roundw
          case rel => exact ⟨k + 1, ⟨_, _⟩, by omega, by go_num, wd_merge _ _ _ _ _, Lib.hid (HSTEP.out (HBL.out (by trivial)))⟩
          case measure => simp [intOf]; omega
      · have HALL : Hid (∀ y ∈ recs, y.key.length ≤ 200 ∧ y.value.length ≤ 700) := Lib.hid (by have h := HTK.out; rw [List.take_of_length_le (by omega)] at h; exact h)
        go_wp2
        go_ret
        exact ⟨_, rfl, more_wd _ _ _, fun _ => ⟨by show recs.length ≤ 40; omega, HALL.out⟩⟩
set_option maxRecDepth 100000 in
set_option maxHeartbeats 1600000 in
theorem light_smalls (ad : Option Addr) (cap : Nat) (l : List Btm) (most : Int) (w : World) (h : BatsAt w ad l) (hf : ∀ x ∈ l, x.b.recs.length ≤ maxLen) (hkv : ∀ x ∈ l, ∀ r ∈ x.b.recs, r.key.length ≤ maxLen ∧ r.value.length ≤ maxLen) (hm : l.length ≤ maxLen) (hmost : most ≤ 1000000) :
    Calls Tryz.prog 35 #[.slice ad l.length cap, .int .i64 most] w fun x w' => LightRet w w' x ((l.length : Int) ≤ most ∧ ∀ y ∈ l, Small y.b) := by
  have HA := Lib.hid h
  have HF := Lib.hid hf
  have HK := Lib.hid hkv
  unfold maxLen at hm
  clear h hf hkv
  by_cases hl : most < l.length
  · refine calls_wd ?_
    go_enter Tryz.func35, Tryz.ntmps35
    go_wp2
    go_ret
    exact ⟨false, rfl, more_wd _ _ _, fun h => by cases h⟩
  · have hl2 : (l.length : Int) ≤ most := by omega
    refine calls_wd ?_
    go_enter Tryz.func35, Tryz.ntmps35
    go_wp2
    go_loopw [5] (fun i wr => ∃ (k : Nat) (m : Ext), k ≤ l.length ∧ i = .int .i64 k ∧ wr = wd w [m.e] m.n ∧ Hid (∀ y ∈ l.take k, Small y.b)) (fun i _ => l.length - (intOf i).toNat)
    case atStart => exact ⟨0, ⟨#[], _⟩, Nat.zero_le _, rfl, by rw [wd_empty], Lib.hid (by simp)⟩
    case round =>
      obtain ⟨k, m, hk, rfl, rfl, HTK⟩ := hrel
      by_cases hlt : k < l.length
      · obtain ⟨x, hx⟩ : ∃ x, l[k]? = some x := ⟨_, List.getElem?_eq_getElem hlt⟩
        obtain ⟨bb, off, rfl, hb, c0, c1, c2, c3, c4, c5⟩ := bats_at HA.out k x hx
        have hmem := List.mem_of_getElem? hx
        have HAT := Lib.hid (HA.out.each x hmem)
        have HLQ := Lib.hid (fun W h => light_small x.b x.a x.cap W h (HF.out x hmem) (HK.out x hmem))
        have HSTEP := Lib.hid (fun h => take_oks (p := fun y : Btm => Small y.b) HTK.out hx h)
        clear hx hmem
        obtain ⟨⟨b0, b1, b2, b3, b4, rs⟩, a, c⟩ := x
        dsimp only at HAT HLQ HSTEP c0 c1 c2 c3 c4 c5
        go_wp2_with (first | (go_at_call 56; ((with_reducible refine (HLQ.out _ (HAT.out.more (more_wd _ _ _))).mono ?_); rintro e w2 hbr; obtain ⟨bl, rfl, ⟨x9, n9, rfl⟩, hbl⟩ := hbr.out; clear hbr; have HBL := Lib.hid hbl; clear hbl; cases bl)))
        · go_ret
          exact ⟨_, rfl, more_wd _ _ _, fun h => by cases h⟩
        · go_roundw
          case rel => exact ⟨k + 1, ⟨_, _⟩, by omega, by go_num, wd_merge _ _ _ _ _, Lib.hid (HSTEP.out (HBL.out (by trivial)))⟩
          case measure => simp [intOf]; omega
      · have HALL : Hid (∀ y ∈ l, Small y.b) := Lib.hid (by have h := HTK.out; rw [List.take_of_length_le (by omega)] at h; exact h)
        go_wp2
        go_ret
        exact ⟨_, rfl, more_wd _ _ _, fun _ => ⟨hl2, HALL.out⟩⟩
set_option maxRecDepth 100000 in
set_option maxHeartbeats 1600000 in
theorem light_req (q : Req) (a : Option Addr) (cap : Nat) (w : World) (hr : RecsAt w a q.batch.recs) (hm : q.batch.recs.length ≤ maxLen) (h1 : q.topic.length ≤ maxLen) (h2 : q.group.length ≤ maxLen) (h3 : q.member.length ≤ maxLen) :
    Calls Tryz.prog 34 #[.agg (rq q a cap)] w fun x w' => BoolRet w w' x := by
  unfold maxLen at h1 h2 h3
  have s1 := str_size q.topic
  have s2 := str_size q.group
  have s3 := str_size q.member
  have HR := Lib.hid hr
  have HB := Lib.hid (fun W h => light_bat q.batch a cap W h hm)
  clear hr hm
  refine calls_wd ?_
  go_enter Tryz.func34, Tryz.ntmps34
  go_wp2_with (first | (go_at_call 56; ((with_reducible refine (HB.out _ (HR.out.more (more_wd _ _ _))).mono ?_); rintro e w2 hbr; obtain ⟨bl, rfl, x9, n9, rfl⟩ := hbr.out)))
  all_goals (go_ret; exact bret_wd _ _ _ _)
structure StpLen (s : Stp) : Prop where
  t : s.q.topic.length ≤ maxLen
  g : s.q.group.length ≤ maxLen
  m : s.q.member.length ≤ maxLen
  r : s.q.batch.recs.length ≤ maxLen
  f : s.fate.length ≤ maxLen
structure OneRet (w : World) (L : List (Array Obj)) (w' : World) (x : Ending) : Prop where
  out : ∃ b x9 n9, x = .returned (.bool b) ∧ w' = wd w (x9 :: L) n9
set_option maxRecDepth 100000 in
set_option maxHeartbeats 1600000 in
theorem light_one (s : Stp) (a : Option Addr) (c : Nat) (f : Option Addr) (fc : Nat) (w : World) (p1 p2 : Array Obj) (n : Nat) (hs : StpLen s) (hr : RecsAt w a s.q.batch.recs) :
    Calls Tryz.prog 15 #[.slice (some ⟨sz w.heap.size [p1.size, p2.size], 0, none⟩) 1 1, .int .i64 1] (wd w [#[.cells (stp s a c f fc) 34], p1, p2] n) fun x w' => OneRet w [#[.cells (stp s a c f fc) 34], p1, p2] w' x := by
  have HR := Lib.hid hr
  have HQ := Lib.hid (fun W h => light_req s.q a c W h hs.r hs.t hs.g hs.m)
  have hfl := hs.f
  unfold maxLen at hfl
  clear hr hs
  go_enter Tryz.func15, Tryz.ntmps15
  go_wp2
  go_loopw [5] (fun i wr => ∃ (k : Nat) (m : Ext), k ≤ 1 ∧ i = .int .i64 k ∧ wr = wd w [m.e, #[.cells (stp s a c f fc) 34], p1, p2] m.n) (fun i _ => 1 - (intOf i).toNat)
  case atStart => exact ⟨0, ⟨#[], _⟩, Nat.zero_le _, rfl, (wd_empty _ _ _).symm⟩
  case round =>
    obtain ⟨k, m, hk, rfl, rfl⟩ := hrel
    by_cases hk0 : k = 0
    · subst hk0
      by_cases hfate : 200 < s.fate.length
      · go_wp2_with (first | (go_at_call 34; ((with_reducible refine (HQ.out _ (HR.out.more (more_wd _ _ _))).mono ?_); rintro e w2 hbr; obtain ⟨bl, rfl, x9, n9, rfl⟩ := hbr.out; cases bl)))
        all_goals (go_ret; exact ⟨_, _, _, rfl, wd_merge _ _ _ _ _⟩)
      · have hfate2 : (s.fate.length : Int) ≤ 200 := by omega
        go_wp2_with (first | (go_at_call 34; ((with_reducible refine (HQ.out _ (HR.out.more (more_wd _ _ _))).mono ?_); rintro e w2 hbr; obtain ⟨bl, rfl, x9, n9, rfl⟩ := hbr.out; cases bl)))
        · go_ret
          exact ⟨_, _, _, rfl, wd_merge _ _ _ _ _⟩
        · go_roundw
          case rel => exact ⟨1, ⟨_, _⟩, by omega, by go_num, wd_merge _ _ _ _ _⟩
          case measure => simp [intOf]
    · obtain rfl : k = 1 := by omega
      go_wp2
      go_ret
      exact ⟨_, _, _, rfl, rfl⟩
structure NRd (w : World) (a : Option Addr) (ws : List Word) : Prop where
  out : ws ≠ [] → ∃ b off, a = some ⟨b, off, none⟩ ∧ b < w.heap.size ∧ ∀ i s, ws[i]? = some s → w.cell? ⟨b, off + i, none⟩ = some (.string (str s))
  len : ∀ s ∈ ws, s.length ≤ maxLen
theorem NRd.srd {w : World} {a : Option Addr} {ws : List Word} (h : NRd w a ws) {cap : Nat} (h1 : ws.length ≤ cap) (h2 : cap ≤ maxLen) (hs : ∀ s ∈ ws, s.length ≤ 400) : SRd w (.slice a ws.length cap) ws :=
  ⟨⟨a, cap, rfl, h1, h2, h.out⟩, fun s hm => by have := hs s hm; omega⟩
set_option maxRecDepth 100000 in
set_option maxHeartbeats 3200000 in
theorem lightresp_any (k0 er off nx : Int) (db : Bool) (ge : Int) (ad : Option Addr) (cap : Nat) (l : List Btm) (pa : Option Addr) (NP pc : Nat) (na : Option Addr) (nc : Nat) (ns : List Word) (w : World) (h : BatsAt w ad l) (hf : ∀ x ∈ l, x.b.recs.length ≤ maxLen) (hkv : ∀ x ∈ l, ∀ r ∈ x.b.recs, r.key.length ≤ maxLen ∧ r.value.length ≤ maxLen) (hm : l.length ≤ maxLen) (hnp : NP ≤ maxLen) (hn : NRd w na ns) (hnn : ns.length ≤ maxLen) :
    Calls Tryz.prog 16 #[.agg #[.int .u8 k0, .int .i64 er, .int .i64 off, .int .i64 nx, .bool db, .int .i64 ge, .slice ad l.length cap, .slice pa NP pc, .slice na ns.length nc]] w fun x w' => LightRet w w' x (NP ≤ 80 ∧ ns.length ≤ 80 ∧ (l.length ≤ 70 ∧ ∀ y ∈ l, Small y.b) ∧ ∀ s ∈ ns, s.length ≤ 400) := by
  have HL := Lib.hid (fun W (hmo : More w W) => light_smalls ad cap l 70 W (h.more hmo) hf hkv hm (by decide))
  have HN := Lib.hid hn
  obtain ⟨NN, hNN⟩ : ∃ NN, ns.length = NN := ⟨_, rfl⟩
  rw [hNN] at hnn ⊢
  have HNN := Lib.hid hNN
  unfold maxLen at hnp hnn
  clear h hf hkv hm hn hNN
  by_cases h1 : 80 < NP
  · refine calls_wd ?_
    go_enter Tryz.func16, Tryz.ntmps16
    go_wp2
    go_ret
    exact ⟨false, rfl, more_wd _ _ _, fun h => by cases h⟩
  by_cases h2 : 80 < NN
  · refine calls_wd ?_
    go_enter Tryz.func16, Tryz.ntmps16
    go_wp2
    go_ret
    exact ⟨false, rfl, more_wd _ _ _, fun h => by cases h⟩
  refine calls_wd ?_
  go_enter Tryz.func16, Tryz.ntmps16
  go_wp2_with (first | (go_at_call 35; ((with_reducible refine (HL.out _ (more_wd _ _ _)).mono ?_); rintro e w2 hbr; obtain ⟨bl, rfl, ⟨x9, n9, rfl⟩, hbl⟩ := hbr.out; have HBL := Lib.hid hbl; clear hbr hbl; cases bl)))
  · go_ret
    exact ⟨false, rfl, more_wd _ _ _, fun h => by cases h⟩
  · go_loopw [3] (fun i wr => ∃ (k : Nat) (m : Ext), k ≤ NN ∧ i = .int .i64 k ∧ wr = wd w [m.e, #[.cells #[.int .u8 k0, .int .i64 er, .int .i64 off, .int .i64 nx, .bool db, .int .i64 ge, .slice ad l.length cap, .slice pa NP pc, .slice na NN nc] 46]] m.n ∧ Hid (∀ y ∈ ns.take k, y.length ≤ 400)) (fun i _ => NN - (intOf i).toNat)
    case atStart => exact ⟨0, ⟨_, _⟩, Nat.zero_le _, rfl, rfl, Lib.hid (by simp)⟩
    case round =>
      obtain ⟨k, m, hk, rfl, rfl, HTK⟩ := hrel
      by_cases hlt : k < NN
      · obtain ⟨x, hx⟩ : ∃ x, ns[k]? = some x := ⟨_, List.getElem?_eq_getElem (by rw [HNN.out]; exact hlt)⟩
        obtain ⟨bb, boff, rfl, hb, hc⟩ := HN.out.out (fun h => by rw [h] at hx; cases hx)
        have c0 := hc k x hx
        have hxl := HN.out.len x (List.mem_of_getElem? hx)
        have hsz := str_size x
        have HSTEP := Lib.hid (fun h => take_oks (p := fun y : Word => y.length ≤ 400) HTK.out hx h)
        unfold maxLen at hxl
        clear hc hx
        by_cases h400 : 400 < x.length
        · go_wp2
          go_ret
          exact ⟨false, rfl, more_wd _ _ _, fun h => by cases h⟩
        · go_wp2
          go_roundw
          case rel => exact ⟨k + 1, m, by omega, by go_num, rfl, Lib.hid (HSTEP.out (by omega))⟩
          case measure => simp [intOf]; omega
      · have HALL : Hid (∀ y ∈ ns, y.length ≤ 400) := Lib.hid (by have h := HTK.out; rw [List.take_of_length_le (by rw [HNN.out]; omega)] at h; exact h)
        go_wp2
        go_ret
        exact ⟨_, rfl, more_wd _ _ _, fun _ => ⟨by omega, by omega, ⟨by have := (HBL.out (by trivial)).1; omega, (HBL.out (by trivial)).2⟩, HALL.out⟩⟩
end Go.Proofs.YtifoekadjnlhcaaGreatDoor
