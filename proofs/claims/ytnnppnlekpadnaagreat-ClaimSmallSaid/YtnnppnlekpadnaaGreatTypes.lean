/- The values of package claim as Lean structures, and their cells. -/
import Derived.WalkKit
namespace Go.Proofs.YtnnppnlekpadnaaGreat
open Go.RowKit

structure Std where
  cl : Int
  fr : Int
  to : Int
  mi : Int
  deriving Inhabited
def encStd (x : Std) : List Value := [.int .u8 x.cl, .int .i64 x.fr, .int .i64 x.to, .int .i64 x.mi]

structure Terms where
  cl : Int
  free : Int
  share : Int
  most : Int
  after : Int
  limit : Int
  wi : Int
  deriving Inhabited
def encTerms (x : Terms) : List Value := [.int .u8 x.cl, .int .i64 x.free, .int .i64 x.share, .int .i64 x.most, .int .i64 x.after, .int .i64 x.limit, .int .i64 x.wi]

structure Sent where
  item : Int
  cl : Int
  fr : Int
  to : Int
  acc : Int
  del : Int
  deriving Inhabited
def encSent (x : Sent) : List Value := [.int .i64 x.item, .int .u8 x.cl, .int .i64 x.fr, .int .i64 x.to, .int .i64 x.acc, .int .i64 x.del]

structure Clm where
  id : Int
  item : Int
  at_ : Int
  kind : Int
  post : Int
  val : Int
  deriving Inhabited
def encClm (x : Clm) : List Value := [.int .i64 x.id, .int .i64 x.item, .int .i64 x.at_, .int .u8 x.kind, .int .i64 x.post, .int .i64 x.val]

structure Outc where
  clm : Int
  cents : Int
  ver : Int
  deriving Inhabited
def encOutc (x : Outc) : List Value := [.int .i64 x.clm, .int .i64 x.cents, .int .u8 x.ver]
end Go.Proofs.YtnnppnlekpadnaaGreat
