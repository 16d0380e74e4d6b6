/-
A part of the proof: lemmas on the machine that the printed functions run on, or contracts of functions.
-/
import Derived.Test.YtfnioapgelabfaaGreatDoorRxUse
set_option linter.unusedVariables false
set_option linter.unusedSimpArgs false
namespace Go.Rx.Api
structure Lab where
  level : Int
  comps : Int
  deriving Inhabited
structure Account where
  name : ByteArray
  secret : ByteArray
  level : Int
  mints : Bool
  deriving Inhabited
structure Guild where
  bit : Int
  founder : Int
  deriving Inhabited
structure Quota where
  rooms : Int
  exits : Int
  items : Int
  mails : Int
  trades : Int
  cap : Int
  deriving Inhabited
structure Realm where
  labels : List Lab
  lines : List Int
  accounts : List Account
  guilds : List Guild
  quotas : List Quota
  orders : Int
  audits : Int
  rate : Int
  rounds : Int
  deriving Inhabited
structure Ref where
  label : Int
  slot : Int
  deriving Inhabited
structure Room where
  used : Bool
  name : ByteArray
  deriving Inhabited
structure Exit where
  used : Bool
  from_ : Ref
  to_ : Ref
  dir : Int
  deriving Inhabited
structure Item where
  used : Bool
  name : ByteArray
  kind : Int
  who : Int
  at_ : Ref
  deriving Inhabited
structure Mail where
  used : Bool
  label : Int
  from_ : Int
  to_ : Int
  text : ByteArray
  deriving Inhabited
structure Part where
  coin : Int
  amount : Int
  item : Int
  deriving Inhabited
structure Trade where
  used : Bool
  a : Int
  b : Int
  give : Part
  want : Part
  deriving Inhabited
structure Order where
  used : Bool
  label : Int
  who : Int
  side : Int
  base : Int
  quote : Int
  price : Int
  left : Int
  reserve : Int
  seq : Int
  deriving Inhabited
structure Entry where
  round : Int
  line : Int
  label : Int
  who : Int
  side : Int
  base : Int
  quote : Int
  qty : Int
  price : Int
  slot : Int
  deriving Inhabited
structure Fill where
  slot : Int
  qty : Int
  price : Int
  deriving Inhabited
structure Four where
  c0 : Int
  c1 : Int
  c2 : Int
  c3 : Int
  deriving Inhabited
structure Shelf where
  rooms : List Room
  exits : List Exit
  items : List Item
  mails : List Mail
  trades : List Trade
  purses : List Four
  places : List Ref
  minted : Four
  burned : Four
  deriving Inhabited
structure State where
  round : Int
  shelves : List Shelf
  ranks : List (List Int)
  orders : List Order
  audit : List Entry
  sessions : List Int
  deriving Inhabited
structure Me where
  line : Int
  label : Int
  who : Int
  deriving Inhabited
structure Holder where
  kind : Int
  who : Int
  at_ : Ref
  deriving Inhabited
structure Judge where
  r : Realm
  s : State
  deriving Inhabited
structure Deed where
  kind : Int
  i : Int
  who : Int
  name : ByteArray
  deriving Inhabited
def icell (n : Int) : List V := [.int .i64 n]
def ucell (n : Int) : List V := [.int .u64 n]
def ecell (n : Int) : List V := [.int .u8 n]
def scell (s : ByteArray) : List V := [.str s]
def bcell (b : Bool) : List V := [.bool b]
def rcell (l : List Int) : List V := [.sl .any (l.map icell)]
def Lab.cells (x : Lab) : List V := [.int .i64 x.level, .int .u64 x.comps]
theorem Lab.eta (x : Lab) : Lab.mk x.level x.comps = x := rfl
def Account.cells (x : Account) : List V := [.str x.name, .str x.secret, .int .i64 x.level, .bool x.mints]
theorem Account.eta (x : Account) : Account.mk x.name x.secret x.level x.mints = x := rfl
def Guild.cells (x : Guild) : List V := [.int .i64 x.bit, .int .i64 x.founder]
theorem Guild.eta (x : Guild) : Guild.mk x.bit x.founder = x := rfl
def Quota.cells (x : Quota) : List V := [.int .i64 x.rooms, .int .i64 x.exits, .int .i64 x.items, .int .i64 x.mails, .int .i64 x.trades, .int .u64 x.cap]
theorem Quota.eta (x : Quota) : Quota.mk x.rooms x.exits x.items x.mails x.trades x.cap = x := rfl
def Realm.cells (x : Realm) : List V := [.sl .any (x.labels.map Lab.cells), .sl .any (x.lines.map icell), .sl .any (x.accounts.map Account.cells), .sl .any (x.guilds.map Guild.cells), .sl .any (x.quotas.map Quota.cells), .int .i64 x.orders, .int .i64 x.audits, .int .i64 x.rate, .int .i64 x.rounds]
theorem Realm.eta (x : Realm) : Realm.mk x.labels x.lines x.accounts x.guilds x.quotas x.orders x.audits x.rate x.rounds = x := rfl
def Ref.cells (x : Ref) : List V := [.int .i64 x.label, .int .i64 x.slot]
theorem Ref.eta (x : Ref) : Ref.mk x.label x.slot = x := rfl
def Room.cells (x : Room) : List V := [.bool x.used, .str x.name]
theorem Room.eta (x : Room) : Room.mk x.used x.name = x := rfl
def Exit.cells (x : Exit) : List V := [.bool x.used, .int .i64 x.from_.label, .int .i64 x.from_.slot, .int .i64 x.to_.label, .int .i64 x.to_.slot, .int .i64 x.dir]
theorem Exit.eta (x : Exit) : Exit.mk x.used x.from_ x.to_ x.dir = x := rfl
def Item.cells (x : Item) : List V := [.bool x.used, .str x.name, .int .i64 x.kind, .int .i64 x.who, .int .i64 x.at_.label, .int .i64 x.at_.slot]
theorem Item.eta (x : Item) : Item.mk x.used x.name x.kind x.who x.at_ = x := rfl
def Mail.cells (x : Mail) : List V := [.bool x.used, .int .i64 x.label, .int .i64 x.from_, .int .i64 x.to_, .str x.text]
theorem Mail.eta (x : Mail) : Mail.mk x.used x.label x.from_ x.to_ x.text = x := rfl
def Part.cells (x : Part) : List V := [.int .i64 x.coin, .int .u64 x.amount, .int .i64 x.item]
theorem Part.eta (x : Part) : Part.mk x.coin x.amount x.item = x := rfl
def Trade.cells (x : Trade) : List V := [.bool x.used, .int .i64 x.a, .int .i64 x.b, .int .i64 x.give.coin, .int .u64 x.give.amount, .int .i64 x.give.item, .int .i64 x.want.coin, .int .u64 x.want.amount, .int .i64 x.want.item]
theorem Trade.eta (x : Trade) : Trade.mk x.used x.a x.b x.give x.want = x := rfl
def Order.cells (x : Order) : List V := [.bool x.used, .int .i64 x.label, .int .i64 x.who, .int .i64 x.side, .int .i64 x.base, .int .i64 x.quote, .int .u64 x.price, .int .u64 x.left, .int .u64 x.reserve, .int .i64 x.seq]
theorem Order.eta (x : Order) : Order.mk x.used x.label x.who x.side x.base x.quote x.price x.left x.reserve x.seq = x := rfl
def Entry.cells (x : Entry) : List V := [.int .u64 x.round, .int .i64 x.line, .int .i64 x.label, .int .i64 x.who, .int .i64 x.side, .int .i64 x.base, .int .i64 x.quote, .int .u64 x.qty, .int .u64 x.price, .int .i64 x.slot]
theorem Entry.eta (x : Entry) : Entry.mk x.round x.line x.label x.who x.side x.base x.quote x.qty x.price x.slot = x := rfl
def Fill.cells (x : Fill) : List V := [.int .i64 x.slot, .int .u64 x.qty, .int .u64 x.price]
theorem Fill.eta (x : Fill) : Fill.mk x.slot x.qty x.price = x := rfl
def Four.cells (x : Four) : List V := [.int .u64 x.c0, .int .u64 x.c1, .int .u64 x.c2, .int .u64 x.c3]
theorem Four.eta (x : Four) : Four.mk x.c0 x.c1 x.c2 x.c3 = x := rfl
def Shelf.cells (x : Shelf) : List V := [.sl .any (x.rooms.map Room.cells), .sl .any (x.exits.map Exit.cells), .sl .any (x.items.map Item.cells), .sl .any (x.mails.map Mail.cells), .sl .any (x.trades.map Trade.cells), .sl .any (x.purses.map Four.cells), .sl .any (x.places.map Ref.cells), .int .u64 x.minted.c0, .int .u64 x.minted.c1, .int .u64 x.minted.c2, .int .u64 x.minted.c3, .int .u64 x.burned.c0, .int .u64 x.burned.c1, .int .u64 x.burned.c2, .int .u64 x.burned.c3]
theorem Shelf.eta (x : Shelf) : Shelf.mk x.rooms x.exits x.items x.mails x.trades x.purses x.places x.minted x.burned = x := rfl
def State.cells (x : State) : List V := [.int .u64 x.round, .sl .any (x.shelves.map Shelf.cells), .sl .any (x.ranks.map rcell), .sl .any (x.orders.map Order.cells), .sl .any (x.audit.map Entry.cells), .sl .any (x.sessions.map icell)]
theorem State.eta (x : State) : State.mk x.round x.shelves x.ranks x.orders x.audit x.sessions = x := rfl
def Me.cells (x : Me) : List V := [.int .i64 x.line, .int .i64 x.label, .int .i64 x.who]
theorem Me.eta (x : Me) : Me.mk x.line x.label x.who = x := rfl
def Holder.cells (x : Holder) : List V := [.int .i64 x.kind, .int .i64 x.who, .int .i64 x.at_.label, .int .i64 x.at_.slot]
theorem Holder.eta (x : Holder) : Holder.mk x.kind x.who x.at_ = x := rfl
def Judge.cells (x : Judge) : List V := [.sl .any (x.r.labels.map Lab.cells), .sl .any (x.r.lines.map icell), .sl .any (x.r.accounts.map Account.cells), .sl .any (x.r.guilds.map Guild.cells), .sl .any (x.r.quotas.map Quota.cells), .int .i64 x.r.orders, .int .i64 x.r.audits, .int .i64 x.r.rate, .int .i64 x.r.rounds, .int .u64 x.s.round, .sl .any (x.s.shelves.map Shelf.cells), .sl .any (x.s.ranks.map rcell), .sl .any (x.s.orders.map Order.cells), .sl .any (x.s.audit.map Entry.cells), .sl .any (x.s.sessions.map icell)]
theorem Judge.eta (x : Judge) : Judge.mk x.r x.s = x := rfl
def Deed.cells (x : Deed) : List V := [.int .i64 x.kind, .int .i64 x.i, .int .i64 x.who, .str x.name]
theorem Deed.eta (x : Deed) : Deed.mk x.kind x.i x.who x.name = x := rfl
theorem icell_len : ∀ a, (icell a).length = 1 := fun _ => rfl
theorem fit_icell (l : List Int) : fitSz 1 (l.map icell) = true := fitSz_map icell_len
theorem norm_icell (l : List Int) (n : Nat) (f : SF) : norm (n + 2) (.sl f (l.map icell)) = some (.sl .any (l.map icell)) := norm_map fun _ => rfl
theorem frz_icell (m : Mem) (b : Nat) (l : List Int) (n : Nat) (f : SF) : frz m b (n + 2) (.sl f (l.map icell)) = some (.sl .any (l.map icell)) := frz_map fun _ => rfl
theorem ucell_len : ∀ a, (ucell a).length = 1 := fun _ => rfl
theorem fit_ucell (l : List Int) : fitSz 1 (l.map ucell) = true := fitSz_map ucell_len
theorem norm_ucell (l : List Int) (n : Nat) (f : SF) : norm (n + 2) (.sl f (l.map ucell)) = some (.sl .any (l.map ucell)) := norm_map fun _ => rfl
theorem frz_ucell (m : Mem) (b : Nat) (l : List Int) (n : Nat) (f : SF) : frz m b (n + 2) (.sl f (l.map ucell)) = some (.sl .any (l.map ucell)) := frz_map fun _ => rfl
theorem ecell_len : ∀ a, (ecell a).length = 1 := fun _ => rfl
theorem fit_ecell (l : List Int) : fitSz 1 (l.map ecell) = true := fitSz_map ecell_len
theorem norm_ecell (l : List Int) (n : Nat) (f : SF) : norm (n + 2) (.sl f (l.map ecell)) = some (.sl .any (l.map ecell)) := norm_map fun _ => rfl
theorem frz_ecell (m : Mem) (b : Nat) (l : List Int) (n : Nat) (f : SF) : frz m b (n + 2) (.sl f (l.map ecell)) = some (.sl .any (l.map ecell)) := frz_map fun _ => rfl
theorem scell_len : ∀ a, (scell a).length = 1 := fun _ => rfl
theorem fit_scell (l : List ByteArray) : fitSz 1 (l.map scell) = true := fitSz_map scell_len
theorem norm_scell (l : List ByteArray) (n : Nat) (f : SF) : norm (n + 2) (.sl f (l.map scell)) = some (.sl .any (l.map scell)) := norm_map fun _ => rfl
theorem frz_scell (m : Mem) (b : Nat) (l : List ByteArray) (n : Nat) (f : SF) : frz m b (n + 2) (.sl f (l.map scell)) = some (.sl .any (l.map scell)) := frz_map fun _ => rfl
theorem bcell_len : ∀ a, (bcell a).length = 1 := fun _ => rfl
theorem fit_bcell (l : List Bool) : fitSz 1 (l.map bcell) = true := fitSz_map bcell_len
theorem norm_bcell (l : List Bool) (n : Nat) (f : SF) : norm (n + 2) (.sl f (l.map bcell)) = some (.sl .any (l.map bcell)) := norm_map fun _ => rfl
theorem frz_bcell (m : Mem) (b : Nat) (l : List Bool) (n : Nat) (f : SF) : frz m b (n + 2) (.sl f (l.map bcell)) = some (.sl .any (l.map bcell)) := frz_map fun _ => rfl
theorem rcell_len : ∀ a, (rcell a).length = 1 := fun _ => rfl
theorem fit_rcell (l : List (List Int)) : fitSz 1 (l.map rcell) = true := fitSz_map rcell_len
theorem norm_rcell (l : List (List Int)) (n : Nat) (f : SF) : norm (n + 3) (.sl f (l.map rcell)) = some (.sl .any (l.map rcell)) := norm_map fun a => by simp only [rcell, allM, norm_icell, Option.bind_some]
theorem frz_rcell (m : Mem) (b : Nat) (l : List (List Int)) (n : Nat) (f : SF) : frz m b (n + 3) (.sl f (l.map rcell)) = some (.sl .any (l.map rcell)) := frz_map fun a => by simp only [rcell, allM, frz_icell, Option.bind_some]
theorem Lab.len : ∀ a, (Lab.cells a).length = 2 := fun _ => rfl
theorem fit_Lab (l : List Lab) : fitSz 2 (l.map Lab.cells) = true := fitSz_map Lab.len
theorem norm_Lab (l : List Lab) (n : Nat) (f : SF) : norm (n + 2) (.sl f (l.map Lab.cells)) = some (.sl .any (l.map Lab.cells)) := norm_map fun a => by simp only [Lab.cells, allM, norm_r, norm_icell, norm_ucell, norm_ecell, norm_scell, norm_bcell, norm_rcell, Option.bind_some]
theorem frz_Lab (m : Mem) (b : Nat) (l : List Lab) (n : Nat) (f : SF) : frz m b (n + 2) (.sl f (l.map Lab.cells)) = some (.sl .any (l.map Lab.cells)) := frz_map fun a => by simp only [Lab.cells, allM, frz_r, frz_icell, frz_ucell, frz_ecell, frz_scell, frz_bcell, frz_rcell, Option.bind_some]
theorem Account.len : ∀ a, (Account.cells a).length = 4 := fun _ => rfl
theorem fit_Account (l : List Account) : fitSz 4 (l.map Account.cells) = true := fitSz_map Account.len
theorem norm_Account (l : List Account) (n : Nat) (f : SF) : norm (n + 2) (.sl f (l.map Account.cells)) = some (.sl .any (l.map Account.cells)) := norm_map fun a => by simp only [Account.cells, allM, norm_r, norm_icell, norm_ucell, norm_ecell, norm_scell, norm_bcell, norm_rcell, norm_Lab, Option.bind_some]
theorem frz_Account (m : Mem) (b : Nat) (l : List Account) (n : Nat) (f : SF) : frz m b (n + 2) (.sl f (l.map Account.cells)) = some (.sl .any (l.map Account.cells)) := frz_map fun a => by simp only [Account.cells, allM, frz_r, frz_icell, frz_ucell, frz_ecell, frz_scell, frz_bcell, frz_rcell, frz_Lab, Option.bind_some]
theorem Guild.len : ∀ a, (Guild.cells a).length = 2 := fun _ => rfl
theorem fit_Guild (l : List Guild) : fitSz 2 (l.map Guild.cells) = true := fitSz_map Guild.len
theorem norm_Guild (l : List Guild) (n : Nat) (f : SF) : norm (n + 2) (.sl f (l.map Guild.cells)) = some (.sl .any (l.map Guild.cells)) := norm_map fun a => by simp only [Guild.cells, allM, norm_r, norm_icell, norm_ucell, norm_ecell, norm_scell, norm_bcell, norm_rcell, norm_Lab, norm_Account, Option.bind_some]
theorem frz_Guild (m : Mem) (b : Nat) (l : List Guild) (n : Nat) (f : SF) : frz m b (n + 2) (.sl f (l.map Guild.cells)) = some (.sl .any (l.map Guild.cells)) := frz_map fun a => by simp only [Guild.cells, allM, frz_r, frz_icell, frz_ucell, frz_ecell, frz_scell, frz_bcell, frz_rcell, frz_Lab, frz_Account, Option.bind_some]
theorem Quota.len : ∀ a, (Quota.cells a).length = 6 := fun _ => rfl
theorem fit_Quota (l : List Quota) : fitSz 6 (l.map Quota.cells) = true := fitSz_map Quota.len
theorem norm_Quota (l : List Quota) (n : Nat) (f : SF) : norm (n + 2) (.sl f (l.map Quota.cells)) = some (.sl .any (l.map Quota.cells)) := norm_map fun a => by simp only [Quota.cells, allM, norm_r, norm_icell, norm_ucell, norm_ecell, norm_scell, norm_bcell, norm_rcell, norm_Lab, norm_Account, norm_Guild, Option.bind_some]
theorem frz_Quota (m : Mem) (b : Nat) (l : List Quota) (n : Nat) (f : SF) : frz m b (n + 2) (.sl f (l.map Quota.cells)) = some (.sl .any (l.map Quota.cells)) := frz_map fun a => by simp only [Quota.cells, allM, frz_r, frz_icell, frz_ucell, frz_ecell, frz_scell, frz_bcell, frz_rcell, frz_Lab, frz_Account, frz_Guild, Option.bind_some]
theorem Realm.len : ∀ a, (Realm.cells a).length = 9 := fun _ => rfl
theorem Ref.len : ∀ a, (Ref.cells a).length = 2 := fun _ => rfl
theorem fit_Ref (l : List Ref) : fitSz 2 (l.map Ref.cells) = true := fitSz_map Ref.len
theorem norm_Ref (l : List Ref) (n : Nat) (f : SF) : norm (n + 2) (.sl f (l.map Ref.cells)) = some (.sl .any (l.map Ref.cells)) := norm_map fun a => by simp only [Ref.cells, allM, norm_r, norm_icell, norm_ucell, norm_ecell, norm_scell, norm_bcell, norm_rcell, norm_Lab, norm_Account, norm_Guild, norm_Quota, Option.bind_some]
theorem frz_Ref (m : Mem) (b : Nat) (l : List Ref) (n : Nat) (f : SF) : frz m b (n + 2) (.sl f (l.map Ref.cells)) = some (.sl .any (l.map Ref.cells)) := frz_map fun a => by simp only [Ref.cells, allM, frz_r, frz_icell, frz_ucell, frz_ecell, frz_scell, frz_bcell, frz_rcell, frz_Lab, frz_Account, frz_Guild, frz_Quota, Option.bind_some]
theorem Room.len : ∀ a, (Room.cells a).length = 2 := fun _ => rfl
theorem fit_Room (l : List Room) : fitSz 2 (l.map Room.cells) = true := fitSz_map Room.len
theorem norm_Room (l : List Room) (n : Nat) (f : SF) : norm (n + 2) (.sl f (l.map Room.cells)) = some (.sl .any (l.map Room.cells)) := norm_map fun a => by simp only [Room.cells, allM, norm_r, norm_icell, norm_ucell, norm_ecell, norm_scell, norm_bcell, norm_rcell, norm_Lab, norm_Account, norm_Guild, norm_Quota, norm_Ref, Option.bind_some]
theorem frz_Room (m : Mem) (b : Nat) (l : List Room) (n : Nat) (f : SF) : frz m b (n + 2) (.sl f (l.map Room.cells)) = some (.sl .any (l.map Room.cells)) := frz_map fun a => by simp only [Room.cells, allM, frz_r, frz_icell, frz_ucell, frz_ecell, frz_scell, frz_bcell, frz_rcell, frz_Lab, frz_Account, frz_Guild, frz_Quota, frz_Ref, Option.bind_some]
theorem Exit.len : ∀ a, (Exit.cells a).length = 6 := fun _ => rfl
theorem fit_Exit (l : List Exit) : fitSz 6 (l.map Exit.cells) = true := fitSz_map Exit.len
theorem norm_Exit (l : List Exit) (n : Nat) (f : SF) : norm (n + 2) (.sl f (l.map Exit.cells)) = some (.sl .any (l.map Exit.cells)) := norm_map fun a => by simp only [Exit.cells, allM, norm_r, norm_icell, norm_ucell, norm_ecell, norm_scell, norm_bcell, norm_rcell, norm_Lab, norm_Account, norm_Guild, norm_Quota, norm_Ref, norm_Room, Option.bind_some]
theorem frz_Exit (m : Mem) (b : Nat) (l : List Exit) (n : Nat) (f : SF) : frz m b (n + 2) (.sl f (l.map Exit.cells)) = some (.sl .any (l.map Exit.cells)) := frz_map fun a => by simp only [Exit.cells, allM, frz_r, frz_icell, frz_ucell, frz_ecell, frz_scell, frz_bcell, frz_rcell, frz_Lab, frz_Account, frz_Guild, frz_Quota, frz_Ref, frz_Room, Option.bind_some]
theorem Item.len : ∀ a, (Item.cells a).length = 6 := fun _ => rfl
theorem fit_Item (l : List Item) : fitSz 6 (l.map Item.cells) = true := fitSz_map Item.len
theorem norm_Item (l : List Item) (n : Nat) (f : SF) : norm (n + 2) (.sl f (l.map Item.cells)) = some (.sl .any (l.map Item.cells)) := norm_map fun a => by simp only [Item.cells, allM, norm_r, norm_icell, norm_ucell, norm_ecell, norm_scell, norm_bcell, norm_rcell, norm_Lab, norm_Account, norm_Guild, norm_Quota, norm_Ref, norm_Room, norm_Exit, Option.bind_some]
theorem frz_Item (m : Mem) (b : Nat) (l : List Item) (n : Nat) (f : SF) : frz m b (n + 2) (.sl f (l.map Item.cells)) = some (.sl .any (l.map Item.cells)) := frz_map fun a => by simp only [Item.cells, allM, frz_r, frz_icell, frz_ucell, frz_ecell, frz_scell, frz_bcell, frz_rcell, frz_Lab, frz_Account, frz_Guild, frz_Quota, frz_Ref, frz_Room, frz_Exit, Option.bind_some]
theorem Mail.len : ∀ a, (Mail.cells a).length = 5 := fun _ => rfl
theorem fit_Mail (l : List Mail) : fitSz 5 (l.map Mail.cells) = true := fitSz_map Mail.len
theorem norm_Mail (l : List Mail) (n : Nat) (f : SF) : norm (n + 2) (.sl f (l.map Mail.cells)) = some (.sl .any (l.map Mail.cells)) := norm_map fun a => by simp only [Mail.cells, allM, norm_r, norm_icell, norm_ucell, norm_ecell, norm_scell, norm_bcell, norm_rcell, norm_Lab, norm_Account, norm_Guild, norm_Quota, norm_Ref, norm_Room, norm_Exit, norm_Item, Option.bind_some]
theorem frz_Mail (m : Mem) (b : Nat) (l : List Mail) (n : Nat) (f : SF) : frz m b (n + 2) (.sl f (l.map Mail.cells)) = some (.sl .any (l.map Mail.cells)) := frz_map fun a => by simp only [Mail.cells, allM, frz_r, frz_icell, frz_ucell, frz_ecell, frz_scell, frz_bcell, frz_rcell, frz_Lab, frz_Account, frz_Guild, frz_Quota, frz_Ref, frz_Room, frz_Exit, frz_Item, Option.bind_some]
theorem Part.len : ∀ a, (Part.cells a).length = 3 := fun _ => rfl
theorem fit_Part (l : List Part) : fitSz 3 (l.map Part.cells) = true := fitSz_map Part.len
theorem norm_Part (l : List Part) (n : Nat) (f : SF) : norm (n + 2) (.sl f (l.map Part.cells)) = some (.sl .any (l.map Part.cells)) := norm_map fun a => by simp only [Part.cells, allM, norm_r, norm_icell, norm_ucell, norm_ecell, norm_scell, norm_bcell, norm_rcell, norm_Lab, norm_Account, norm_Guild, norm_Quota, norm_Ref, norm_Room, norm_Exit, norm_Item, norm_Mail, Option.bind_some]
theorem frz_Part (m : Mem) (b : Nat) (l : List Part) (n : Nat) (f : SF) : frz m b (n + 2) (.sl f (l.map Part.cells)) = some (.sl .any (l.map Part.cells)) := frz_map fun a => by simp only [Part.cells, allM, frz_r, frz_icell, frz_ucell, frz_ecell, frz_scell, frz_bcell, frz_rcell, frz_Lab, frz_Account, frz_Guild, frz_Quota, frz_Ref, frz_Room, frz_Exit, frz_Item, frz_Mail, Option.bind_some]
theorem Trade.len : ∀ a, (Trade.cells a).length = 9 := fun _ => rfl
theorem fit_Trade (l : List Trade) : fitSz 9 (l.map Trade.cells) = true := fitSz_map Trade.len
theorem norm_Trade (l : List Trade) (n : Nat) (f : SF) : norm (n + 2) (.sl f (l.map Trade.cells)) = some (.sl .any (l.map Trade.cells)) := norm_map fun a => by simp only [Trade.cells, allM, norm_r, norm_icell, norm_ucell, norm_ecell, norm_scell, norm_bcell, norm_rcell, norm_Lab, norm_Account, norm_Guild, norm_Quota, norm_Ref, norm_Room, norm_Exit, norm_Item, norm_Mail, norm_Part, Option.bind_some]
theorem frz_Trade (m : Mem) (b : Nat) (l : List Trade) (n : Nat) (f : SF) : frz m b (n + 2) (.sl f (l.map Trade.cells)) = some (.sl .any (l.map Trade.cells)) := frz_map fun a => by simp only [Trade.cells, allM, frz_r, frz_icell, frz_ucell, frz_ecell, frz_scell, frz_bcell, frz_rcell, frz_Lab, frz_Account, frz_Guild, frz_Quota, frz_Ref, frz_Room, frz_Exit, frz_Item, frz_Mail, frz_Part, Option.bind_some]
theorem Order.len : ∀ a, (Order.cells a).length = 10 := fun _ => rfl
theorem fit_Order (l : List Order) : fitSz 10 (l.map Order.cells) = true := fitSz_map Order.len
theorem norm_Order (l : List Order) (n : Nat) (f : SF) : norm (n + 2) (.sl f (l.map Order.cells)) = some (.sl .any (l.map Order.cells)) := norm_map fun a => by simp only [Order.cells, allM, norm_r, norm_icell, norm_ucell, norm_ecell, norm_scell, norm_bcell, norm_rcell, norm_Lab, norm_Account, norm_Guild, norm_Quota, norm_Ref, norm_Room, norm_Exit, norm_Item, norm_Mail, norm_Part, norm_Trade, Option.bind_some]
theorem frz_Order (m : Mem) (b : Nat) (l : List Order) (n : Nat) (f : SF) : frz m b (n + 2) (.sl f (l.map Order.cells)) = some (.sl .any (l.map Order.cells)) := frz_map fun a => by simp only [Order.cells, allM, frz_r, frz_icell, frz_ucell, frz_ecell, frz_scell, frz_bcell, frz_rcell, frz_Lab, frz_Account, frz_Guild, frz_Quota, frz_Ref, frz_Room, frz_Exit, frz_Item, frz_Mail, frz_Part, frz_Trade, Option.bind_some]
theorem Entry.len : ∀ a, (Entry.cells a).length = 10 := fun _ => rfl
theorem fit_Entry (l : List Entry) : fitSz 10 (l.map Entry.cells) = true := fitSz_map Entry.len
theorem norm_Entry (l : List Entry) (n : Nat) (f : SF) : norm (n + 2) (.sl f (l.map Entry.cells)) = some (.sl .any (l.map Entry.cells)) := norm_map fun a => by simp only [Entry.cells, allM, norm_r, norm_icell, norm_ucell, norm_ecell, norm_scell, norm_bcell, norm_rcell, norm_Lab, norm_Account, norm_Guild, norm_Quota, norm_Ref, norm_Room, norm_Exit, norm_Item, norm_Mail, norm_Part, norm_Trade, norm_Order, Option.bind_some]
theorem frz_Entry (m : Mem) (b : Nat) (l : List Entry) (n : Nat) (f : SF) : frz m b (n + 2) (.sl f (l.map Entry.cells)) = some (.sl .any (l.map Entry.cells)) := frz_map fun a => by simp only [Entry.cells, allM, frz_r, frz_icell, frz_ucell, frz_ecell, frz_scell, frz_bcell, frz_rcell, frz_Lab, frz_Account, frz_Guild, frz_Quota, frz_Ref, frz_Room, frz_Exit, frz_Item, frz_Mail, frz_Part, frz_Trade, frz_Order, Option.bind_some]
theorem Fill.len : ∀ a, (Fill.cells a).length = 3 := fun _ => rfl
theorem fit_Fill (l : List Fill) : fitSz 3 (l.map Fill.cells) = true := fitSz_map Fill.len
theorem norm_Fill (l : List Fill) (n : Nat) (f : SF) : norm (n + 2) (.sl f (l.map Fill.cells)) = some (.sl .any (l.map Fill.cells)) := norm_map fun a => by simp only [Fill.cells, allM, norm_r, norm_icell, norm_ucell, norm_ecell, norm_scell, norm_bcell, norm_rcell, norm_Lab, norm_Account, norm_Guild, norm_Quota, norm_Ref, norm_Room, norm_Exit, norm_Item, norm_Mail, norm_Part, norm_Trade, norm_Order, norm_Entry, Option.bind_some]
theorem frz_Fill (m : Mem) (b : Nat) (l : List Fill) (n : Nat) (f : SF) : frz m b (n + 2) (.sl f (l.map Fill.cells)) = some (.sl .any (l.map Fill.cells)) := frz_map fun a => by simp only [Fill.cells, allM, frz_r, frz_icell, frz_ucell, frz_ecell, frz_scell, frz_bcell, frz_rcell, frz_Lab, frz_Account, frz_Guild, frz_Quota, frz_Ref, frz_Room, frz_Exit, frz_Item, frz_Mail, frz_Part, frz_Trade, frz_Order, frz_Entry, Option.bind_some]
theorem Four.len : ∀ a, (Four.cells a).length = 4 := fun _ => rfl
theorem fit_Four (l : List Four) : fitSz 4 (l.map Four.cells) = true := fitSz_map Four.len
theorem norm_Four (l : List Four) (n : Nat) (f : SF) : norm (n + 2) (.sl f (l.map Four.cells)) = some (.sl .any (l.map Four.cells)) := norm_map fun a => by simp only [Four.cells, allM, norm_r, norm_icell, norm_ucell, norm_ecell, norm_scell, norm_bcell, norm_rcell, norm_Lab, norm_Account, norm_Guild, norm_Quota, norm_Ref, norm_Room, norm_Exit, norm_Item, norm_Mail, norm_Part, norm_Trade, norm_Order, norm_Entry, norm_Fill, Option.bind_some]
theorem frz_Four (m : Mem) (b : Nat) (l : List Four) (n : Nat) (f : SF) : frz m b (n + 2) (.sl f (l.map Four.cells)) = some (.sl .any (l.map Four.cells)) := frz_map fun a => by simp only [Four.cells, allM, frz_r, frz_icell, frz_ucell, frz_ecell, frz_scell, frz_bcell, frz_rcell, frz_Lab, frz_Account, frz_Guild, frz_Quota, frz_Ref, frz_Room, frz_Exit, frz_Item, frz_Mail, frz_Part, frz_Trade, frz_Order, frz_Entry, frz_Fill, Option.bind_some]
theorem Shelf.len : ∀ a, (Shelf.cells a).length = 15 := fun _ => rfl
theorem fit_Shelf (l : List Shelf) : fitSz 15 (l.map Shelf.cells) = true := fitSz_map Shelf.len
theorem norm_Shelf (l : List Shelf) (n : Nat) (f : SF) : norm (n + 3) (.sl f (l.map Shelf.cells)) = some (.sl .any (l.map Shelf.cells)) := norm_map fun a => by simp only [Shelf.cells, allM, norm_r, norm_icell, norm_ucell, norm_ecell, norm_scell, norm_bcell, norm_rcell, norm_Lab, norm_Account, norm_Guild, norm_Quota, norm_Ref, norm_Room, norm_Exit, norm_Item, norm_Mail, norm_Part, norm_Trade, norm_Order, norm_Entry, norm_Fill, norm_Four, Option.bind_some]
theorem frz_Shelf (m : Mem) (b : Nat) (l : List Shelf) (n : Nat) (f : SF) : frz m b (n + 3) (.sl f (l.map Shelf.cells)) = some (.sl .any (l.map Shelf.cells)) := frz_map fun a => by simp only [Shelf.cells, allM, frz_r, frz_icell, frz_ucell, frz_ecell, frz_scell, frz_bcell, frz_rcell, frz_Lab, frz_Account, frz_Guild, frz_Quota, frz_Ref, frz_Room, frz_Exit, frz_Item, frz_Mail, frz_Part, frz_Trade, frz_Order, frz_Entry, frz_Fill, frz_Four, Option.bind_some]
theorem State.len : ∀ a, (State.cells a).length = 6 := fun _ => rfl
theorem Me.len : ∀ a, (Me.cells a).length = 3 := fun _ => rfl
theorem fit_Me (l : List Me) : fitSz 3 (l.map Me.cells) = true := fitSz_map Me.len
theorem norm_Me (l : List Me) (n : Nat) (f : SF) : norm (n + 2) (.sl f (l.map Me.cells)) = some (.sl .any (l.map Me.cells)) := norm_map fun a => by simp only [Me.cells, allM, norm_r, norm_icell, norm_ucell, norm_ecell, norm_scell, norm_bcell, norm_rcell, norm_Lab, norm_Account, norm_Guild, norm_Quota, norm_Ref, norm_Room, norm_Exit, norm_Item, norm_Mail, norm_Part, norm_Trade, norm_Order, norm_Entry, norm_Fill, norm_Four, norm_Shelf, Option.bind_some]
theorem frz_Me (m : Mem) (b : Nat) (l : List Me) (n : Nat) (f : SF) : frz m b (n + 2) (.sl f (l.map Me.cells)) = some (.sl .any (l.map Me.cells)) := frz_map fun a => by simp only [Me.cells, allM, frz_r, frz_icell, frz_ucell, frz_ecell, frz_scell, frz_bcell, frz_rcell, frz_Lab, frz_Account, frz_Guild, frz_Quota, frz_Ref, frz_Room, frz_Exit, frz_Item, frz_Mail, frz_Part, frz_Trade, frz_Order, frz_Entry, frz_Fill, frz_Four, frz_Shelf, Option.bind_some]
theorem Holder.len : ∀ a, (Holder.cells a).length = 4 := fun _ => rfl
theorem fit_Holder (l : List Holder) : fitSz 4 (l.map Holder.cells) = true := fitSz_map Holder.len
theorem norm_Holder (l : List Holder) (n : Nat) (f : SF) : norm (n + 2) (.sl f (l.map Holder.cells)) = some (.sl .any (l.map Holder.cells)) := norm_map fun a => by simp only [Holder.cells, allM, norm_r, norm_icell, norm_ucell, norm_ecell, norm_scell, norm_bcell, norm_rcell, norm_Lab, norm_Account, norm_Guild, norm_Quota, norm_Ref, norm_Room, norm_Exit, norm_Item, norm_Mail, norm_Part, norm_Trade, norm_Order, norm_Entry, norm_Fill, norm_Four, norm_Shelf, norm_Me, Option.bind_some]
theorem frz_Holder (m : Mem) (b : Nat) (l : List Holder) (n : Nat) (f : SF) : frz m b (n + 2) (.sl f (l.map Holder.cells)) = some (.sl .any (l.map Holder.cells)) := frz_map fun a => by simp only [Holder.cells, allM, frz_r, frz_icell, frz_ucell, frz_ecell, frz_scell, frz_bcell, frz_rcell, frz_Lab, frz_Account, frz_Guild, frz_Quota, frz_Ref, frz_Room, frz_Exit, frz_Item, frz_Mail, frz_Part, frz_Trade, frz_Order, frz_Entry, frz_Fill, frz_Four, frz_Shelf, frz_Me, Option.bind_some]
theorem Judge.len : ∀ a, (Judge.cells a).length = 15 := fun _ => rfl
theorem Deed.len : ∀ a, (Deed.cells a).length = 4 := fun _ => rfl
theorem fit_Deed (l : List Deed) : fitSz 4 (l.map Deed.cells) = true := fitSz_map Deed.len
theorem norm_Deed (l : List Deed) (n : Nat) (f : SF) : norm (n + 2) (.sl f (l.map Deed.cells)) = some (.sl .any (l.map Deed.cells)) := norm_map fun a => by simp only [Deed.cells, allM, norm_r, norm_icell, norm_ucell, norm_ecell, norm_scell, norm_bcell, norm_rcell, norm_Lab, norm_Account, norm_Guild, norm_Quota, norm_Ref, norm_Room, norm_Exit, norm_Item, norm_Mail, norm_Part, norm_Trade, norm_Order, norm_Entry, norm_Fill, norm_Four, norm_Shelf, norm_Me, norm_Holder, Option.bind_some]
theorem frz_Deed (m : Mem) (b : Nat) (l : List Deed) (n : Nat) (f : SF) : frz m b (n + 2) (.sl f (l.map Deed.cells)) = some (.sl .any (l.map Deed.cells)) := frz_map fun a => by simp only [Deed.cells, allM, frz_r, frz_icell, frz_ucell, frz_ecell, frz_scell, frz_bcell, frz_rcell, frz_Lab, frz_Account, frz_Guild, frz_Quota, frz_Ref, frz_Room, frz_Exit, frz_Item, frz_Mail, frz_Part, frz_Trade, frz_Order, frz_Entry, frz_Fill, frz_Four, frz_Shelf, frz_Me, frz_Holder, Option.bind_some]
theorem Lab.ce (x : Lab) : x.cells = [.int .i64 x.level, .int .u64 x.comps] := rfl
theorem Account.ce (x : Account) : x.cells = [.str x.name, .str x.secret, .int .i64 x.level, .bool x.mints] := rfl
theorem Guild.ce (x : Guild) : x.cells = [.int .i64 x.bit, .int .i64 x.founder] := rfl
theorem Quota.ce (x : Quota) : x.cells = [.int .i64 x.rooms, .int .i64 x.exits, .int .i64 x.items, .int .i64 x.mails, .int .i64 x.trades, .int .u64 x.cap] := rfl
theorem Realm.ce (x : Realm) : x.cells = [.sl .any (x.labels.map Lab.cells), .sl .any (x.lines.map icell), .sl .any (x.accounts.map Account.cells), .sl .any (x.guilds.map Guild.cells), .sl .any (x.quotas.map Quota.cells), .int .i64 x.orders, .int .i64 x.audits, .int .i64 x.rate, .int .i64 x.rounds] := rfl
theorem Ref.ce (x : Ref) : x.cells = [.int .i64 x.label, .int .i64 x.slot] := rfl
theorem Room.ce (x : Room) : x.cells = [.bool x.used, .str x.name] := rfl
theorem Exit.ce (x : Exit) : x.cells = [.bool x.used, .int .i64 x.from_.label, .int .i64 x.from_.slot, .int .i64 x.to_.label, .int .i64 x.to_.slot, .int .i64 x.dir] := rfl
theorem Item.ce (x : Item) : x.cells = [.bool x.used, .str x.name, .int .i64 x.kind, .int .i64 x.who, .int .i64 x.at_.label, .int .i64 x.at_.slot] := rfl
theorem Mail.ce (x : Mail) : x.cells = [.bool x.used, .int .i64 x.label, .int .i64 x.from_, .int .i64 x.to_, .str x.text] := rfl
theorem Part.ce (x : Part) : x.cells = [.int .i64 x.coin, .int .u64 x.amount, .int .i64 x.item] := rfl
theorem Trade.ce (x : Trade) : x.cells = [.bool x.used, .int .i64 x.a, .int .i64 x.b, .int .i64 x.give.coin, .int .u64 x.give.amount, .int .i64 x.give.item, .int .i64 x.want.coin, .int .u64 x.want.amount, .int .i64 x.want.item] := rfl
theorem Order.ce (x : Order) : x.cells = [.bool x.used, .int .i64 x.label, .int .i64 x.who, .int .i64 x.side, .int .i64 x.base, .int .i64 x.quote, .int .u64 x.price, .int .u64 x.left, .int .u64 x.reserve, .int .i64 x.seq] := rfl
theorem Entry.ce (x : Entry) : x.cells = [.int .u64 x.round, .int .i64 x.line, .int .i64 x.label, .int .i64 x.who, .int .i64 x.side, .int .i64 x.base, .int .i64 x.quote, .int .u64 x.qty, .int .u64 x.price, .int .i64 x.slot] := rfl
theorem Fill.ce (x : Fill) : x.cells = [.int .i64 x.slot, .int .u64 x.qty, .int .u64 x.price] := rfl
theorem Four.ce (x : Four) : x.cells = [.int .u64 x.c0, .int .u64 x.c1, .int .u64 x.c2, .int .u64 x.c3] := rfl
theorem Shelf.ce (x : Shelf) : x.cells = [.sl .any (x.rooms.map Room.cells), .sl .any (x.exits.map Exit.cells), .sl .any (x.items.map Item.cells), .sl .any (x.mails.map Mail.cells), .sl .any (x.trades.map Trade.cells), .sl .any (x.purses.map Four.cells), .sl .any (x.places.map Ref.cells), .int .u64 x.minted.c0, .int .u64 x.minted.c1, .int .u64 x.minted.c2, .int .u64 x.minted.c3, .int .u64 x.burned.c0, .int .u64 x.burned.c1, .int .u64 x.burned.c2, .int .u64 x.burned.c3] := rfl
theorem State.ce (x : State) : x.cells = [.int .u64 x.round, .sl .any (x.shelves.map Shelf.cells), .sl .any (x.ranks.map rcell), .sl .any (x.orders.map Order.cells), .sl .any (x.audit.map Entry.cells), .sl .any (x.sessions.map icell)] := rfl
theorem Me.ce (x : Me) : x.cells = [.int .i64 x.line, .int .i64 x.label, .int .i64 x.who] := rfl
theorem Holder.ce (x : Holder) : x.cells = [.int .i64 x.kind, .int .i64 x.who, .int .i64 x.at_.label, .int .i64 x.at_.slot] := rfl
theorem Judge.ce (x : Judge) : x.cells = [.sl .any (x.r.labels.map Lab.cells), .sl .any (x.r.lines.map icell), .sl .any (x.r.accounts.map Account.cells), .sl .any (x.r.guilds.map Guild.cells), .sl .any (x.r.quotas.map Quota.cells), .int .i64 x.r.orders, .int .i64 x.r.audits, .int .i64 x.r.rate, .int .i64 x.r.rounds, .int .u64 x.s.round, .sl .any (x.s.shelves.map Shelf.cells), .sl .any (x.s.ranks.map rcell), .sl .any (x.s.orders.map Order.cells), .sl .any (x.s.audit.map Entry.cells), .sl .any (x.s.sessions.map icell)] := rfl
theorem Deed.ce (x : Deed) : x.cells = [.int .i64 x.kind, .int .i64 x.i, .int .i64 x.who, .str x.name] := rfl
theorem icell_ce (n : Int) : icell n = [.int .i64 n] := rfl
theorem ucell_ce (n : Int) : ucell n = [.int .u64 n] := rfl
theorem ecell_ce (n : Int) : ecell n = [.int .u8 n] := rfl
theorem scell_ce (n : ByteArray) : scell n = [.str n] := rfl
theorem bcell_ce (n : Bool) : bcell n = [.bool n] := rfl
theorem rcell_ce (n : List Int) : rcell n = [.sl .any (n.map icell)] := rfl
theorem celld : (type_of% @Lab.ce) ∧ (type_of% @Account.ce) ∧ (type_of% @Guild.ce) ∧ (type_of% @Quota.ce) ∧ (type_of% @Realm.ce) ∧ (type_of% @Ref.ce) ∧ (type_of% @Room.ce) ∧ (type_of% @Exit.ce) ∧ (type_of% @Item.ce) ∧ (type_of% @Mail.ce) ∧ (type_of% @Part.ce) ∧ (type_of% @Trade.ce) ∧ (type_of% @Order.ce) ∧ (type_of% @Entry.ce) ∧ (type_of% @Fill.ce) ∧ (type_of% @Four.ce) ∧ (type_of% @Shelf.ce) ∧ (type_of% @State.ce) ∧ (type_of% @Me.ce) ∧ (type_of% @Holder.ce) ∧ (type_of% @Judge.ce) ∧ (type_of% @Deed.ce) ∧ (type_of% @icell_ce) ∧ (type_of% @ucell_ce) ∧ (type_of% @ecell_ce) ∧ (type_of% @scell_ce) ∧ (type_of% @bcell_ce) ∧ (type_of% @rcell_ce) := ⟨@Lab.ce, @Account.ce, @Guild.ce, @Quota.ce, @Realm.ce, @Ref.ce, @Room.ce, @Exit.ce, @Item.ce, @Mail.ce, @Part.ce, @Trade.ce, @Order.ce, @Entry.ce, @Fill.ce, @Four.ce, @Shelf.ce, @State.ce, @Me.ce, @Holder.ce, @Judge.ce, @Deed.ce, @icell_ce, @ucell_ce, @ecell_ce, @scell_ce, @bcell_ce, @rcell_ce⟩
theorem etas : (type_of% @Lab.eta) ∧ (type_of% @Account.eta) ∧ (type_of% @Guild.eta) ∧ (type_of% @Quota.eta) ∧ (type_of% @Realm.eta) ∧ (type_of% @Ref.eta) ∧ (type_of% @Room.eta) ∧ (type_of% @Exit.eta) ∧ (type_of% @Item.eta) ∧ (type_of% @Mail.eta) ∧ (type_of% @Part.eta) ∧ (type_of% @Trade.eta) ∧ (type_of% @Order.eta) ∧ (type_of% @Entry.eta) ∧ (type_of% @Fill.eta) ∧ (type_of% @Four.eta) ∧ (type_of% @Shelf.eta) ∧ (type_of% @State.eta) ∧ (type_of% @Me.eta) ∧ (type_of% @Holder.eta) ∧ (type_of% @Judge.eta) ∧ (type_of% @Deed.eta) := ⟨@Lab.eta, @Account.eta, @Guild.eta, @Quota.eta, @Realm.eta, @Ref.eta, @Room.eta, @Exit.eta, @Item.eta, @Mail.eta, @Part.eta, @Trade.eta, @Order.eta, @Entry.eta, @Fill.eta, @Four.eta, @Shelf.eta, @State.eta, @Me.eta, @Holder.eta, @Judge.eta, @Deed.eta⟩
theorem fits : (type_of% @fit_icell) ∧ (type_of% @fit_ucell) ∧ (type_of% @fit_ecell) ∧ (type_of% @fit_scell) ∧ (type_of% @fit_bcell) ∧ (type_of% @fit_rcell) ∧ (type_of% @fit_Lab) ∧ (type_of% @fit_Account) ∧ (type_of% @fit_Guild) ∧ (type_of% @fit_Quota) ∧ (type_of% @fit_Ref) ∧ (type_of% @fit_Room) ∧ (type_of% @fit_Exit) ∧ (type_of% @fit_Item) ∧ (type_of% @fit_Mail) ∧ (type_of% @fit_Part) ∧ (type_of% @fit_Trade) ∧ (type_of% @fit_Order) ∧ (type_of% @fit_Entry) ∧ (type_of% @fit_Fill) ∧ (type_of% @fit_Four) ∧ (type_of% @fit_Shelf) ∧ (type_of% @fit_Me) ∧ (type_of% @fit_Holder) ∧ (type_of% @fit_Deed) := ⟨@fit_icell, @fit_ucell, @fit_ecell, @fit_scell, @fit_bcell, @fit_rcell, @fit_Lab, @fit_Account, @fit_Guild, @fit_Quota, @fit_Ref, @fit_Room, @fit_Exit, @fit_Item, @fit_Mail, @fit_Part, @fit_Trade, @fit_Order, @fit_Entry, @fit_Fill, @fit_Four, @fit_Shelf, @fit_Me, @fit_Holder, @fit_Deed⟩
theorem norms : (type_of% @norm_icell) ∧ (type_of% @norm_ucell) ∧ (type_of% @norm_ecell) ∧ (type_of% @norm_scell) ∧ (type_of% @norm_bcell) ∧ (type_of% @norm_rcell) ∧ (type_of% @norm_Lab) ∧ (type_of% @norm_Account) ∧ (type_of% @norm_Guild) ∧ (type_of% @norm_Quota) ∧ (type_of% @norm_Ref) ∧ (type_of% @norm_Room) ∧ (type_of% @norm_Exit) ∧ (type_of% @norm_Item) ∧ (type_of% @norm_Mail) ∧ (type_of% @norm_Part) ∧ (type_of% @norm_Trade) ∧ (type_of% @norm_Order) ∧ (type_of% @norm_Entry) ∧ (type_of% @norm_Fill) ∧ (type_of% @norm_Four) ∧ (type_of% @norm_Shelf) ∧ (type_of% @norm_Me) ∧ (type_of% @norm_Holder) ∧ (type_of% @norm_Deed) := ⟨@norm_icell, @norm_ucell, @norm_ecell, @norm_scell, @norm_bcell, @norm_rcell, @norm_Lab, @norm_Account, @norm_Guild, @norm_Quota, @norm_Ref, @norm_Room, @norm_Exit, @norm_Item, @norm_Mail, @norm_Part, @norm_Trade, @norm_Order, @norm_Entry, @norm_Fill, @norm_Four, @norm_Shelf, @norm_Me, @norm_Holder, @norm_Deed⟩
theorem frzs : (type_of% @frz_icell) ∧ (type_of% @frz_ucell) ∧ (type_of% @frz_ecell) ∧ (type_of% @frz_scell) ∧ (type_of% @frz_bcell) ∧ (type_of% @frz_rcell) ∧ (type_of% @frz_Lab) ∧ (type_of% @frz_Account) ∧ (type_of% @frz_Guild) ∧ (type_of% @frz_Quota) ∧ (type_of% @frz_Ref) ∧ (type_of% @frz_Room) ∧ (type_of% @frz_Exit) ∧ (type_of% @frz_Item) ∧ (type_of% @frz_Mail) ∧ (type_of% @frz_Part) ∧ (type_of% @frz_Trade) ∧ (type_of% @frz_Order) ∧ (type_of% @frz_Entry) ∧ (type_of% @frz_Fill) ∧ (type_of% @frz_Four) ∧ (type_of% @frz_Shelf) ∧ (type_of% @frz_Me) ∧ (type_of% @frz_Holder) ∧ (type_of% @frz_Deed) := ⟨@frz_icell, @frz_ucell, @frz_ecell, @frz_scell, @frz_bcell, @frz_rcell, @frz_Lab, @frz_Account, @frz_Guild, @frz_Quota, @frz_Ref, @frz_Room, @frz_Exit, @frz_Item, @frz_Mail, @frz_Part, @frz_Trade, @frz_Order, @frz_Entry, @frz_Fill, @frz_Four, @frz_Shelf, @frz_Me, @frz_Holder, @frz_Deed⟩
def Lab.eqb (x y : Lab) : Bool := ((x.level == y.level) && (x.comps == y.comps))
def Account.eqb (x y : Account) : Bool := ((x.name.toList == y.name.toList) && ((x.secret.toList == y.secret.toList) && ((x.level == y.level) && (x.mints == y.mints))))
def Guild.eqb (x y : Guild) : Bool := ((x.bit == y.bit) && (x.founder == y.founder))
def Quota.eqb (x y : Quota) : Bool := ((x.rooms == y.rooms) && ((x.exits == y.exits) && ((x.items == y.items) && ((x.mails == y.mails) && ((x.trades == y.trades) && (x.cap == y.cap))))))
def Ref.eqb (x y : Ref) : Bool := ((x.label == y.label) && (x.slot == y.slot))
def Room.eqb (x y : Room) : Bool := ((x.used == y.used) && (x.name.toList == y.name.toList))
def Exit.eqb (x y : Exit) : Bool := ((x.used == y.used) && ((x.from_.label == y.from_.label) && ((x.from_.slot == y.from_.slot) && ((x.to_.label == y.to_.label) && ((x.to_.slot == y.to_.slot) && (x.dir == y.dir))))))
def Item.eqb (x y : Item) : Bool := ((x.used == y.used) && ((x.name.toList == y.name.toList) && ((x.kind == y.kind) && ((x.who == y.who) && ((x.at_.label == y.at_.label) && (x.at_.slot == y.at_.slot))))))
def Mail.eqb (x y : Mail) : Bool := ((x.used == y.used) && ((x.label == y.label) && ((x.from_ == y.from_) && ((x.to_ == y.to_) && (x.text.toList == y.text.toList)))))
def Part.eqb (x y : Part) : Bool := ((x.coin == y.coin) && ((x.amount == y.amount) && (x.item == y.item)))
def Trade.eqb (x y : Trade) : Bool := ((x.used == y.used) && ((x.a == y.a) && ((x.b == y.b) && ((x.give.coin == y.give.coin) && ((x.give.amount == y.give.amount) && ((x.give.item == y.give.item) && ((x.want.coin == y.want.coin) && ((x.want.amount == y.want.amount) && (x.want.item == y.want.item)))))))))
def Order.eqb (x y : Order) : Bool := ((x.used == y.used) && ((x.label == y.label) && ((x.who == y.who) && ((x.side == y.side) && ((x.base == y.base) && ((x.quote == y.quote) && ((x.price == y.price) && ((x.left == y.left) && ((x.reserve == y.reserve) && (x.seq == y.seq))))))))))
def Entry.eqb (x y : Entry) : Bool := ((x.round == y.round) && ((x.line == y.line) && ((x.label == y.label) && ((x.who == y.who) && ((x.side == y.side) && ((x.base == y.base) && ((x.quote == y.quote) && ((x.qty == y.qty) && ((x.price == y.price) && (x.slot == y.slot))))))))))
def Fill.eqb (x y : Fill) : Bool := ((x.slot == y.slot) && ((x.qty == y.qty) && (x.price == y.price)))
def Four.eqb (x y : Four) : Bool := ((x.c0 == y.c0) && ((x.c1 == y.c1) && ((x.c2 == y.c2) && (x.c3 == y.c3))))
def Me.eqb (x y : Me) : Bool := ((x.line == y.line) && ((x.label == y.label) && (x.who == y.who)))
def Holder.eqb (x y : Holder) : Bool := ((x.kind == y.kind) && ((x.who == y.who) && ((x.at_.label == y.at_.label) && (x.at_.slot == y.at_.slot))))
def Deed.eqb (x y : Deed) : Bool := ((x.kind == y.kind) && ((x.i == y.i) && ((x.who == y.who) && (x.name.toList == y.name.toList))))
end Go.Rx.Api
