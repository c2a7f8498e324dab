/- The api's types that are read: items, changes, hits, messages: what they hold, and that what came in holds something. -/
import Derived.Test.YtgaaonbjfhklbaaCameT
import Derived.Test.YtgaaonbjfhklbaaRd
namespace Go.Proofs.Ytgaaonbjfhklbaa
set_option linter.unusedVariables false
set_option linter.unusedSimpArgs false
open Go.RowKit

structure ItemC where
  id : Int
  vec : List Int
  tags : List ByteArray
structure ChangeC where
  gone : Bool
  item : ItemC
structure HitC where
  dist : Int
  id : Int

def ItemR (w : World) (es : List Value) (x : ItemC) : Prop := ∃ v t, es = [.int .u32 x.id, v, t] ∧ Ints .i32 w v x.vec ∧ Strs w t x.tags
def ChangeR (w : World) (es : List Value) (x : ChangeC) : Prop := ∃ v t, es = [.bool x.gone, .int .u32 x.item.id, v, t] ∧ Ints .i32 w v x.item.vec ∧ Strs w t x.item.tags
def HitR (_ : World) (es : List Value) (x : HitC) : Prop := es = [.int .i64 x.dist, .int .u32 x.id]
def Items (w : World) (v : Value) (l : List ItemC) : Prop := RowN 3 ItemR w v l
def Changes (w : World) (v : Value) (l : List ChangeC) : Prop := RowN 4 ChangeR w v l
def Hits (w : World) (v : Value) (l : List HitC) : Prop := RowN 2 HitR w v l

theorem ItemR.keeps {w w' : World} (k : Keeps w w') (es : List Value) (x : ItemC) (h : ItemR w es x) : ItemR w' es x := by
  obtain ⟨v, t, e, h1, h2⟩ := h
  exact ⟨v, t, e, h1.keeps k, h2.keeps k⟩
theorem ChangeR.keeps {w w' : World} (k : Keeps w w') (es : List Value) (x : ChangeC) (h : ChangeR w es x) : ChangeR w' es x := by
  obtain ⟨v, t, e, h1, h2⟩ := h
  exact ⟨v, t, e, h1.keeps k, h2.keeps k⟩
theorem Items.keeps {w w' : World} {v : Value} {l : List ItemC} (h : Items w v l) (k : Keeps w w') : Items w' v l := RowN.keeps h k (ItemR.keeps k)
theorem Changes.keeps {w w' : World} {v : Value} {l : List ChangeC} (h : Changes w v l) (k : Keeps w w') : Changes w' v l := RowN.keeps h k (ChangeR.keeps k)
theorem Hits.keeps {w w' : World} {v : Value} {l : List HitC} (h : Hits w v l) (k : Keeps w w') : Hits w' v l := RowN.keeps h k fun _ _ h => h

/-- A message's cells. -/
structure MsgC where
  kind : Int
  req : Int
  caps : Int
  token : Int
  code : Int
  n : Int
  name : ByteArray
  cname : ByteArray
  dim : Int
  metric : Int
  graph : Bool
  links : Int
  cwidth : Int
  changes : List ChangeC
  id : Int
  vec : List Int
  k : Int
  width : Int
  all : List ByteArray
  any : List ByteArray
  none : List ByteArray
  num : Int
  page : Int
  bytes : List Int
  version : Int
  names : List ByteArray
  items : List ItemC
  hits : List HitC

def MsgR (w : World) (es : List Value) (x : MsgC) : Prop :=
  ∃ ch vc fa fy fn by_ ns is hs, es = [.int .u8 x.kind, .int .u32 x.req, .int .u32 x.caps, .int .u64 x.token, .int .u8 x.code, .int .u32 x.n, .string x.name, .string x.cname, .int .u8 x.dim, .int .u8 x.metric, .bool x.graph, .int .u8 x.links, .int .u16 x.cwidth,
    ch, .int .u32 x.id, vc, .int .u16 x.k, .int .u16 x.width, fa, fy, fn, .int .u32 x.num, .int .u32 x.page, by_, .int .u64 x.version, ns, is, hs] ∧
    Changes w ch x.changes ∧ Ints .i32 w vc x.vec ∧ Strs w fa x.all ∧ Strs w fy x.any ∧ Strs w fn x.none ∧ Ints .u8 w by_ x.bytes ∧ Strs w ns x.names ∧ Items w is x.items ∧ Hits w hs x.hits

theorem MsgR.keeps {w w' : World} (k : Keeps w w') (es : List Value) (x : MsgC) (h : MsgR w es x) : MsgR w' es x := by
  obtain ⟨ch, vc, fa, fy, fn, by_, ns, is, hs, e, h1, h2, h3, h4, h5, h6, h7, h8, h9⟩ := h
  exact ⟨ch, vc, fa, fy, fn, by_, ns, is, hs, e, h1.keeps k, h2.keeps k, h3.keeps k, h4.keeps k, h5.keeps k, h6.keeps k, h7.keeps k, h8.keeps k, h9.keeps k⟩

theorem itemR_of {w : World} {es : List Value} (h : CameC Try.prog w 77 es) : ∃ x, ItemR w es x := by
  obtain ⟨id, vA, vn, vc, tA, tn, tc, rfl, _, hv, ht⟩ := came77 h
  obtain ⟨l, hl, hv, _⟩ := hv.ints Try.underlying21
  obtain ⟨m, hm, ht⟩ := ht.strs Try.underlying9
  exact ⟨⟨id, l, m⟩, _, _, rfl, hv, ht⟩
theorem changeR_of {w : World} {es : List Value} (h : CameC Try.prog w 114 es) : ∃ x, ChangeR w es x := by
  obtain ⟨g, id, vA, vn, vc, tA, tn, tc, rfl, _, hv, ht⟩ := came114 h
  obtain ⟨l, hl, hv, _⟩ := hv.ints Try.underlying21
  obtain ⟨m, hm, ht⟩ := ht.strs Try.underlying9
  exact ⟨⟨g, ⟨id, l, m⟩⟩, _, _, rfl, hv, ht⟩
theorem hitR_of {w : World} {es : List Value} (h : CameC Try.prog w 171 es) : ∃ x, HitR w es x := by
  obtain ⟨d, id, rfl, _, _⟩ := came171 h
  exact ⟨⟨d, id⟩, rfl⟩

theorem SlIn.items {w : World} {A : Option Addr} {len cap : Nat} (h : SlIn Try.prog w 77 3 A len cap) : ∃ l, l.length = len ∧ Items w (.slice A len cap) l := h.rowN fun _ hc => itemR_of hc
theorem SlIn.changes {w : World} {A : Option Addr} {len cap : Nat} (h : SlIn Try.prog w 114 4 A len cap) : ∃ l, l.length = len ∧ Changes w (.slice A len cap) l := h.rowN fun _ hc => changeR_of hc
theorem SlIn.hits {w : World} {A : Option Addr} {len cap : Nat} (h : SlIn Try.prog w 171 2 A len cap) : ∃ l, l.length = len ∧ Hits w (.slice A len cap) l := h.rowN fun _ hc => hitR_of hc

theorem msgR_of {w : World} {es : List Value} (h : CameC Try.prog w 37 es) : ∃ x, MsgR w es x := by
  obtain ⟨x0, x1, x2, x3, x4, x5, x6, x7_0, x7_1, x7_2, x7_3, x7_4, x7_5, x8A, x8n, x8c, x9, x10A, x10n, x10c, x11, x12, x13_0A, x13_0n, x13_0c, x13_1A, x13_1n, x13_1c, x13_2A, x13_2n, x13_2c, x14, x15, x16A, x16n, x16c, x17, x18A, x18n, x18c, x19A, x19n, x19c, x20A, x20n, x20c, rfl,
    _, _, _, _, _, _, _, _, _, _, _, _, h8, _, h10, _, _, h13, h14, h15, _, _, h16, _, h18, h19, h20⟩ := came37 h
  obtain ⟨l8, _, h8⟩ := h8.changes
  obtain ⟨l10, _, h10, _⟩ := h10.ints Try.underlying21
  obtain ⟨l13, _, h13⟩ := h13.strs Try.underlying9
  obtain ⟨l14, _, h14⟩ := h14.strs Try.underlying9
  obtain ⟨l15, _, h15⟩ := h15.strs Try.underlying9
  obtain ⟨l16, _, h16, _⟩ := h16.ints Try.underlying5
  obtain ⟨l18, _, h18⟩ := h18.strs Try.underlying9
  obtain ⟨l19, _, h19⟩ := h19.items
  obtain ⟨l20, _, h20⟩ := h20.hits
  exact ⟨⟨x0, x1, x2, x3, x4, x5, x6, x7_0, x7_1, x7_2, x7_3, x7_4, x7_5, l8, x9, l10, x11, x12, l13, l14, l15, x14, x15, l16, x17, l18, l19, l20⟩, _, _, _, _, _, _, _, _, _, rfl, h8, h10, h13, h14, h15, h16, h18, h19, h20⟩

def zMsgC : MsgC := ⟨0, 0, 0, 0, 0, 0, ⟨#[]⟩, ⟨#[]⟩, 0, 0, false, 0, 0, [], 0, [], 0, 0, [], [], [], 0, 0, [], 0, [], [], []⟩
theorem msgR_zero (w : World) : MsgR w [.int .u8 0, .int .u32 0, .int .u32 0, .int .u64 0, .int .u8 0, .int .u32 0, .string ⟨#[]⟩, .string ⟨#[]⟩, .int .u8 0, .int .u8 0, .bool false, .int .u8 0, .int .u16 0, .slice none 0 0, .int .u32 0, .slice none 0 0, .int .u16 0, .int .u16 0, .slice none 0 0, .slice none 0 0, .slice none 0 0, .int .u32 0, .int .u32 0, .slice none 0 0, .int .u64 0, .slice none 0 0, .slice none 0 0, .slice none 0 0] zMsgC :=
  ⟨_, _, _, _, _, _, _, _, _, rfl, RowN.nil _ _ _, RowN.nil _ _ _, RowN.nil _ _ _, RowN.nil _ _ _, RowN.nil _ _ _, RowN.nil _ _ _, RowN.nil _ _ _, RowN.nil _ _ _, RowN.nil _ _ _⟩
end Go.Proofs.Ytgaaonbjfhklbaa
